/- Texts of the abstract machine and of the walks, part 4. -/
import Derived.Test.YtooogfnmhfocjaaDoorSplM3
import Derived.KernelRfl

/- What was coded of a frame is read again. -/
namespace SplA
open Go.Proofs.YtooogfnmhfocjaaDoor.Spl Go Go.Proofs
set_option maxRecDepth 100000
set_option linter.unusedVariables false
set_option linter.unusedSimpArgs false

/-! pulses -/
theorem lowN_mono {r : Nat → Nat} {k a : Nat} : ∀ {d : Nat}, lowN r k a ≤ lowN r k (a + d)
  | 0 => Nat.le_refl _
  | d + 1 => by
    have h1 := lowN_mono (r := r) (k := k) (a := a) (d := d)
    rcases Nat.eq_zero_or_pos (a + d) with h | h
    · obtain ⟨rfl, rfl⟩ : a = 0 ∧ d = 0 := by omega
      exact Nat.zero_le _
    · have := lowN_succ (r := r) (k := k) (j := a + d) h
      rw [← Nat.add_assoc]
      omega
theorem lowN_mono' {r : Nat → Nat} {k a b : Nat} (h : a ≤ b) : lowN r k a ≤ lowN r k b := by
  obtain ⟨d, rfl⟩ : ∃ d, b = a + d := ⟨b - a, by omega⟩
  exact lowN_mono
theorem firstL_at {r : Nat → Nat} {k m e : Nat} (hmk : m ≤ k) (he : e < 2 * r (k - m)) : ∀ {f mm : Nat}, 1 ≤ mm → mm ≤ m → mm + f = k + 1 → firstL r k f mm (lowN r k m - lowN r k mm + e) = if r (k - m) ≤ e then (-(m : Int), e - r (k - m)) else ((m : Int), e)
  | 0, mm, h1, h2, h3 => by omega
  | f + 1, mm, h1, h2, h3 => by
    unfold firstL
    rcases Nat.lt_or_ge mm m with h | h
    · have hs := lowN_succ (r := r) (k := k) h1
      have hm := lowN_mono' (r := r) (k := k) (show mm + 1 ≤ m by omega)
      rw [if_pos (by omega)]
      have e1 : lowN r k m - lowN r k mm + e - 2 * r (k - mm) = lowN r k m - lowN r k (mm + 1) + e := by omega
      rw [e1]
      exact firstL_at hmk he (by omega) (by omega) (by omega)
    · obtain rfl : mm = m := by omega
      rw [Nat.sub_self, Nat.zero_add, if_neg (by omega)]
theorem firstN_at {r : Nat → Nat} {k i' : Nat} {x : Int} (hmk : x.natAbs ≤ k) (hi : i' < r (k - x.natAbs)) : lowN r k x.natAbs + (if x < 0 then r (k - x.natAbs) else 0) + i' < lowN r k (k + 1) ∧ firstN r k (lowN r k x.natAbs + (if x < 0 then r (k - x.natAbs) else 0) + i') = (x, i') := by
  rcases Nat.eq_zero_or_pos x.natAbs with h0 | h0
  · obtain rfl : x = 0 := by omega
    have hl1 := lowN_mono' (r := r) (k := k) (show 1 ≤ k + 1 by omega)
    rw [lowN_one] at hl1
    have hz : lowN r k (0 : Int).natAbs = 0 := rfl
    have hi' : i' < r k := hi
    rw [hz, if_neg (by decide), Nat.zero_add]
    refine ⟨by omega, ?_⟩
    unfold firstN
    rw [if_pos hi']
  · have hs := lowN_succ (r := r) (k := k) h0
    have hm := lowN_mono' (r := r) (k := k) (show x.natAbs + 1 ≤ k + 1 by omega)
    have h1 := lowN_mono' (r := r) (k := k) (show 1 ≤ x.natAbs by omega)
    rw [lowN_one] at h1
    generalize he : (if x < 0 then r (k - x.natAbs) else 0) + i' = e
    have he2 : e < 2 * r (k - x.natAbs) := by
      rw [← he]
      split <;> omega
    rw [Nat.add_assoc, he]
    refine ⟨by omega, ?_⟩
    unfold firstN
    rw [if_neg (by omega), show lowN r k x.natAbs + e - r k = lowN r k x.natAbs - lowN r k 1 + e by rw [lowN_one]; omega, firstL_at hmk he2 (Nat.le_refl _) h0 (by omega)]
    by_cases hx : x < 0
    · rw [if_pos hx] at he
      rw [if_pos (by omega)]
      exact Prod.ext (by dsimp only; omega) (by dsimp only; omega)
    · rw [if_neg hx] at he
      rw [if_neg (by omega)]
      exact Prod.ext (by dsimp only; omega) (by dsimp only; omega)
theorem idx_back : ∀ (l : List Int) (k : Nat), absSum l = k → k < 25 → idxN k l < pvT l.length k ∧ vecN l.length k (idxN k l) = l
  | [], k, h, _ => by
    obtain rfl : k = 0 := h.symm
    exact ⟨by rw [List.length_nil, pvT_zero]; exact Nat.zero_lt_one, rfl⟩
  | x :: l, k, h, hk => by
    simp -implicitDefEqProofs only [absSum] at h
    obtain ⟨h1, h2⟩ := idx_back l (k - x.natAbs) (by omega) (by omega)
    obtain ⟨h3, h4⟩ := firstN_at (show x.natAbs ≤ k by omega) h1
    simp -implicitDefEqProofs only [idxN, List.length_cons]
    rw [← lowN_full l.length k hk]
    refine ⟨h3, ?_⟩
    rw [vecN, h4]
    dsimp only
    rw [h2]
theorem pvT_31 : ∀ n, n < 9 → ∀ k, k < 25 → pvT n k ≤ 2147483648 := by decide +kernel
theorem vec_back {p : List Int} {k : Nat} (hs : sizeN p = some k) : indexN p = some (idxN k p) ∧ idxN k p < countN p.length k ∧ countN p.length k ≤ 2147483648 ∧ vecO p.length k (idxN k p : Nat) = some p := by
  unfold sizeN at hs
  split at hs
  · rename_i hc
    cases hs
    obtain ⟨h1, h2⟩ := idx_back p (absSum p) rfl (by omega)
    have hcn : countN p.length (absSum p : Nat) = pvT p.length (absSum p) := by
      unfold countN
      rw [if_pos (by omega), Int.toNat_natCast, Int.toNat_natCast]
    refine ⟨if_pos hc, by rw [hcn]; exact h1, by rw [hcn]; exact pvT_31 _ (by omega) _ (by omega), ?_⟩
    unfold vecO
    rw [if_pos (by rw [hcn]; omega), Int.toNat_natCast, Int.toNat_natCast, Int.toNat_natCast, h2]
  · cases hs

/-! rows -/
theorem rowD_back {intra : Bool} {p : List Int} (hp : intra = true ∨ RightP p) : ∀ {c : List Int} {b : Nat} {last : Int}, (∀ x ∈ c, 0 ≤ x ∧ x ≤ 23) → 0 ≤ last ∧ last ≤ 23 → rowD intra p b last (deltasN intra p b last c) = some c
  | [], _, _, _, _ => rfl
  | x :: l, b, last, hc, hl => by
    have he := expN_in (b := b) hp hl
    have hx := hc x (by simp)
    have e1 : expN intra p b last + (x - expN intra p b last) = x := by omega
    rw [deltasN, rowD, if_pos ⟨by omega, by omega⟩, e1, rowD_back hp (fun y hy => hc y (by simp [hy])) hx]
    rfl
theorem RowO_back {intra : Bool} {p c : List Int} (h : DeltasP intra p c) : RowO intra p (deltasO intra p c) = some c ∧ (deltasO intra p c).length = 13 ∧ ∀ y ∈ deltasO intra p c, -67 ≤ y ∧ y ≤ 67 := by
  have hd : deltasO intra p c = deltasN intra p 0 0 c := if_pos h
  have hl : (deltasN intra p 0 0 c).length = 13 := by rw [deltasN_length]; exact h.1.1
  rw [hd]
  refine ⟨?_, hl, fun y hy => ?_⟩
  · unfold RowO
    rw [if_pos ⟨hl, h.2⟩]
    exact rowD_back h.2 h.1.2 (by decide)
  · have := deltasN_in h.2 (b := 0) (last := 0) h.1.2 (by decide) y hy
    omega

/-! parts -/
theorem getD_right {o : Option (List Pt)} (h : ∀ ps, o = some ps → Rights ps) : Rights (o.getD []) := by
  cases o with
  | none => exact Rights.nil
  | some ps => exact h ps rfl
theorem dP_right (d : Int) : Rights (dP d) := getD_right fun _ h => (deltaO_right h).1
theorem fP_right (b : BandD) : Rights (fP b) := by
  unfold fP
  split
  · exact getD_right fun _ h => (bitsO_right h).1
  · exact Rights.nil
theorem pP_right (q : Int) (n : Nat) (b : BandD) : Rights (pP q n b) := by
  unfold pP
  split
  · exact getD_right fun _ h => (belowO_right h).1
  · exact Rights.nil
theorem dPs_right : ∀ l : List Int, Rights (dPs l)
  | [] => Rights.nil
  | d :: l => (dP_right d).append (dPs_right l)
theorem fPs_right : ∀ l : List BandD, Rights (fPs l)
  | [] => Rights.nil
  | b :: l => (fP_right b).append (fPs_right l)
theorem pPs_right (q : Int) : ∀ (l : List BandD) (n : Nat), Rights (pPs q n l)
  | [], _ => Rights.nil
  | b :: l, n => (pP_right q n b).append (pPs_right q l (n + 1))
theorem chanP_right (q : Int) (c : List BandD) (d : List Int) : Rights (chanP q c d) := (dPs_right d).append ((fPs_right c).append (pPs_right q c 0))
theorem chansP_right (q : Int) (f : FrameD) (p : List (List Int)) : ∀ (l : List (List BandD)) (i : Nat), Rights (chansP q f p i l)
  | [], _ => Rights.nil
  | c :: l, i => (chanP_right _ _ _).append (chansP_right q f p l (i + 1))
theorem headP_right (f : FrameD) (n : Int) : Rights (headP f n) := by
  unfold headP
  refine (bitsP_right _ _).append (Rights.append ?_ ((bitsP_right _ _).append (getD_right fun _ h => (belowO_right h).1)))
  split
  · exact bitsP_right _ _
  · exact Rights.nil
/-- What is coded first lies within. -/
theorem within_pre {S : List UInt8} {x : Iv} {a b : List Pt} (hb : Rights b) (h : Within S (x.parts (a ++ b))) : Within S (x.parts a) := by
  rw [Iv.parts_append] at h
  exact within_sub (Iv.parts_sub hb) h

theorem takeDs_at {S : List UInt8} : ∀ {ds : List Int} {x : Iv} {d : Dec}, (∀ y ∈ ds, -67 ≤ y ∧ y ≤ 67) → d.At S x → x.Fits → Within S (x.parts (dPs ds)) → (takeDs ds.length d).1 = ds ∧ (takeDs ds.length d).2.At S (x.parts (dPs ds))
  | [], x, d, _, h, _, _ => ⟨rfl, h⟩
  | y :: ds, x, d, hy, h, hx, hw => by
    have hP : dPs (y :: ds) = dP y ++ dPs ds := rfl
    have hy1 := hy y (by simp)
    have hdy : deltaO y = some (deltaP y) := if_pos hy1
    have hdP : dP y = deltaP y := by unfold dP; rw [hdy]; rfl
    rw [hP] at hw ⊢
    have hw1 := within_pre (dPs_right ds) hw
    rw [hdP] at hw1 hw ⊢
    obtain ⟨g1, g2⟩ := at_delta h hx hy1 hw1
    rw [Iv.parts_append] at hw ⊢
    obtain ⟨g3, g4⟩ := takeDs_at (fun z hz => hy z (by simp [hz])) g2 (Iv.parts_fits hx (deltaP_right hy1)) hw
    refine ⟨?_, g4⟩
    rw [List.length_cons, takeDs, g1, g3]
theorem takeF_at {S : List UInt8} : ∀ {c : List BandD} {x : Iv} {d : Dec}, (∀ b ∈ c, 0 ≤ b.c ∧ (b.c = 0 → b.f = 0) ∧ 0 ≤ b.f ∧ b.f ≤ 3) → d.At S x → x.Fits → Within S (x.parts (fPs c)) → (takeF (c.map BandD.c) d).1 = c.map (fun b => (b.c, b.f)) ∧ (takeF (c.map BandD.c) d).2.At S (x.parts (fPs c))
  | [], x, d, _, h, _, _ => ⟨rfl, h⟩
  | b :: c, x, d, hb, h, hx, hw => by
    have hP : fPs (b :: c) = fP b ++ fPs c := rfl
    have hb1 := hb b (by simp)
    have hbs : ∀ z ∈ c, 0 ≤ z.c ∧ (z.c = 0 → z.f = 0) ∧ 0 ≤ z.f ∧ z.f ≤ 3 := fun z hz => hb z (by simp [hz])
    rw [hP] at hw ⊢
    have hw1 := within_pre (fPs_right c) hw
    rw [List.map_cons, takeF]
    by_cases h0 : 0 < b.c
    · have hbo : bitsO b.f 2 = some (bitsP 2 b.f.toNat) := if_pos ⟨by decide, by decide, hb1.2.2.1, by have := hb1.2.2.2; show b.f < 4; omega⟩
      have hfP : fP b = bitsP 2 b.f.toNat := by unfold fP; rw [if_pos h0, hbo]; rfl
      rw [hfP] at hw1 hw ⊢
      obtain ⟨g1, g2⟩ := at_bitsO h hx hbo hw1
      rw [Iv.parts_append] at hw ⊢
      obtain ⟨g3, g4⟩ := takeF_at hbs g2 (Iv.parts_fits hx (bitsP_right _ _)) hw
      rw [if_pos h0]
      exact ⟨by dsimp only; rw [g3, g1]; rfl, g4⟩
    · have hfP : fP b = [] := if_neg h0
      rw [hfP, List.nil_append] at hw ⊢
      obtain ⟨g3, g4⟩ := takeF_at hbs h hx hw
      rw [if_neg h0]
      have hf0 := hb1.2.1 (by omega)
      exact ⟨by dsimp only; rw [g3, List.map_cons, hf0], g4⟩
theorem takeP_at {S : List UInt8} {q : Int} : ∀ {c : List BandD} {n : Nat} {x : Iv} {d : Dec}, (∀ k b, c[k]? = some b → FitsP b q (n + k)) → d.At S x → x.Fits → Within S (x.parts (pPs q n c)) → ∃ d', takeP q n (c.map BandD.c) d = some (c.map BandD.p, d') ∧ d'.At S (x.parts (pPs q n c))
  | [], n, x, d, _, h, _, _ => ⟨d, rfl, h⟩
  | b :: c, n, x, d, hb, h, hx, hw => by
    have hP : pPs q n (b :: c) = pP q n b ++ pPs q (n + 1) c := rfl
    have hb1 := hb 0 b rfl
    rw [Nat.add_zero] at hb1
    have hbs : ∀ k z, c[k]? = some z → FitsP z q (n + 1 + k) := fun k z hz => by
      have := hb (k + 1) z hz
      rwa [show n + (k + 1) = n + 1 + k by omega] at this
    obtain ⟨v1, v2, v3, v4⟩ := vec_back hb1.1
    rw [hb1.2.1] at v2 v3 v4
    rw [hP] at hw ⊢
    have hw1 := within_pre (pPs_right q c (n + 1)) hw
    rw [List.map_cons, takeP]
    by_cases h0 : 0 < bandN q b.c (widthN n)
    · have hbo : belowO ((idxN (bandN q b.c (widthN n)) b.p : Nat) : Int) ((countN (widthN n) (bandN q b.c (widthN n)) : Nat) : Int) = some (belowP (countN (widthN n) (bandN q b.c (widthN n))) (idxN (bandN q b.c (widthN n)) b.p)) := by
        unfold belowO
        rw [if_pos (by omega), Int.toNat_natCast, Int.toNat_natCast]
      have hpP : pP q n b = belowP (countN (widthN n) (bandN q b.c (widthN n))) (idxN (bandN q b.c (widthN n)) b.p) := by
        unfold pP
        rw [if_pos h0, v1, Option.getD_some, hbo]
        rfl
      rw [hpP] at hw1 hw ⊢
      obtain ⟨g1, g2, g3⟩ := at_belowO h hx hbo hw1
      rw [Iv.parts_append] at hw ⊢
      obtain ⟨d', g4, g5⟩ := takeP_at hbs g3 (Iv.parts_fits hx (belowP_right v3 v2)) hw
      refine ⟨d', ?_, g5⟩
      rw [if_pos h0, if_pos g2, g4, g1, v4]
      rfl
    · have hk0 : bandN q b.c (widthN n) = 0 := by omega
      have hpP : pP q n b = [] := if_neg h0
      rw [hpP, List.nil_append] at hw ⊢
      obtain ⟨d', g4, g5⟩ := takeP_at hbs h hx hw
      refine ⟨d', ?_, g5⟩
      have hi0 : idxN (bandN q b.c (widthN n)) b.p = 0 := by
        have hc1 : countN (widthN n) (bandN q b.c (widthN n)) ≤ 1 := by
          rw [hk0]
          unfold countN
          split
          · rw [show ((0 : Nat) : Int).toNat = 0 from rfl, pvT_zero]; exact Nat.le_refl _
          · exact Nat.zero_le _
        omega
      rw [hi0] at v4
      rw [if_neg h0, g4]
      have v4' : vecO (widthN n) (bandN q b.c (widthN n)) 0 = some b.p := v4
      rw [v4']
      rfl
theorem bands_back : ∀ c : List BandD, bandsOf (c.map fun b => (b.c, b.f)) (c.map BandD.p) = c
  | [] => rfl
  | b :: c => by
    have := bands_back c
    unfold bandsOf at this ⊢
    simp -implicitDefEqProofs only [List.map_cons, List.zip_cons_cons, this]
theorem takeC_at {S : List UInt8} {q : Int} {intra : Bool} {p : List Int} {c : List BandD} {x : Iv} {d : Dec} (hc : ChanP q c) (hp : intra = true ∨ RightP p) (h : d.At S x) (hx : x.Fits) (hw : Within S (x.parts (chanP q c (deltasO intra p (c.map BandD.c))))) :
    ∃ d', takeC q intra p d = some (c, d') ∧ d'.At S (x.parts (chanP q c (deltasO intra p (c.map BandD.c)))) := by
  have hfit : ∀ b ∈ c, ∃ k, FitsP b q k := fun b hb => by
    obtain ⟨k, hk⟩ := List.getElem?_of_mem hb
    exact ⟨k, hc.2 k b hk⟩
  have hD : DeltasP intra p (c.map BandD.c) := by
    refine ⟨⟨by rw [List.length_map, hc.1], fun y hy => ?_⟩, hp⟩
    obtain ⟨b, hb, rfl⟩ := List.mem_map.1 hy
    obtain ⟨k, hk⟩ := hfit b hb
    exact ⟨hk.2.2.2.1, hk.2.2.2.2.1⟩
  obtain ⟨r1, r2, r3⟩ := RowO_back hD
  generalize deltasO intra p (c.map BandD.c) = ds at *
  have hw1 : Within S (x.parts (dPs ds)) := within_pre ((fPs_right c).append (pPs_right q c 0)) hw
  obtain ⟨g1, g2⟩ := takeDs_at r3 h hx hw1
  rw [r2] at g1 g2
  have hx1 := Iv.parts_fits hx (dPs_right ds)
  unfold chanP at hw ⊢
  rw [Iv.parts_append] at hw ⊢
  have hw2 := within_pre (pPs_right q c 0) hw
  obtain ⟨g3, g4⟩ := takeF_at (fun b hb => by
    obtain ⟨k, hk⟩ := hfit b hb
    exact ⟨hk.2.2.2.1, hk.2.2.1, hk.2.2.2.2.2.1, hk.2.2.2.2.2.2⟩) g2 hx1 hw2
  rw [Iv.parts_append] at hw ⊢
  obtain ⟨d', g5, g6⟩ := takeP_at (n := 0) (fun k b hb => by rw [Nat.zero_add]; exact hc.2 k b hb) g4 (Iv.parts_fits hx1 (fPs_right c)) hw
  refine ⟨d', ?_, g6⟩
  unfold takeC
  rw [g1, r1]
  dsimp only
  rw [g5, g3, Option.map_some, bands_back]
theorem takeCs_at {S : List UInt8} {q : Int} {f : FrameD} {p : List (List Int)} : ∀ {l : List (List BandD)} {i : Nat} {x : Iv} {d : Dec}, (∀ c ∈ l, ChanP q c) → (f.intra = true ∨ ∀ k, i ≤ k → k < i + l.length → RightP (p.getD k [])) → d.At S x → x.Fits → Within S (x.parts (chansP q f p i l)) → ∃ d', takeCs q f.intra p l.length i d = some (l, d') ∧ d'.At S (x.parts (chansP q f p i l))
  | [], i, x, d, _, _, h, _, _ => ⟨d, rfl, h⟩
  | c :: l, i, x, d, hc, hp, h, hx, hw => by
    unfold chansP at hw ⊢
    have hw1 := within_pre (chansP_right q f p l (i + 1)) hw
    have hpi : f.intra = true ∨ RightP (lastN f p i) := by
      rcases hp with hp | hp
      · exact .inl hp
      · by_cases hi : f.intra = true
        · exact .inl hi
        · right
          unfold lastN
          rw [if_neg hi]
          exact hp i (Nat.le_refl _) (by simp)
    obtain ⟨d1, g1, g2⟩ := takeC_at (hc c (by simp)) hpi h hx hw1
    rw [Iv.parts_append] at hw ⊢
    obtain ⟨d2, g3, g4⟩ := takeCs_at (l := l) (i := i + 1) (fun z hz => hc z (by simp [hz])) (hp.imp id fun hp k h1 h2 => hp k (by omega) (by simp -implicitDefEqProofs only [List.length_cons]; omega)) g2 (Iv.parts_fits hx (chanP_right _ _ _)) hw
    have g1' : takeC q f.intra (p.getD i []) d = some (c, d1) := by
      rw [← g1]
      unfold lastN
      by_cases hi : f.intra = true
      · rw [hi]; exact takeC_intra _ _ _ _
      · rw [if_neg hi]
    refine ⟨d2, ?_, g4⟩
    rw [List.length_cons, takeCs, g1']
    dsimp only
    rw [g3]
    rfl
theorem at_flag {S : List UInt8} {b : Bool} {x : Iv} {d : Dec} (h : d.At S x) (hx : x.Fits) (hw : Within S (x.parts (bitsP 1 (if b then 1 else 0)))) : decide ((gbitsV 1 d).1 = 1) = b ∧ (gbitsV 1 d).2.At S (x.parts (bitsP 1 (if b then 1 else 0))) := by
  have hbo : bitsO ((if b then 1 else 0 : Nat) : Int) 1 = some (bitsP 1 (if b then 1 else 0)) := by cases b <;> rfl
  obtain ⟨g1, g2⟩ := at_bitsO h hx hbo hw
  refine ⟨?_, g2⟩
  cases b with
  | true => exact decide_eq_true (by simp at g1; omega)
  | false => exact decide_eq_false (by simp at g1; omega)
/-- A FRAME COMES BACK FROM ITS OCTETS. -/
theorem frameT_back {f : FrameD} {n q : Int} {p : List (List Int)} (hP : PutP f n q p) : frameT n q p (Dec.start (Iv.start.parts (frameP f n q p)).ends) = some f := by
  obtain ⟨hF, hA⟩ := hP
  have hfr : Rights (frameP f n q p) := (headP_right f n).append (chansP_right q f p f.chans 0)
  have hw : Within (Iv.start.parts (frameP f n q p)).ends (Iv.start.parts (frameP f n q p)) := within_ends (Iv.parts_fits Iv.start_fits hfr) (Iv.Sub.refl _)
  generalize (Iv.start.parts (frameP f n q p)).ends = S at hw
  have h0 := at_start S
  have hx0 := Iv.start_fits
  have hga := hF.2.2.2.2.1
  have hgo : belowO (f.gain + 64) 97 = some (belowP 97 (f.gain + 64).toNat) := if_pos ⟨by decide, by decide, by omega, by omega⟩
  unfold frameP headP at hw
  rw [hgo, Option.getD_some, List.append_assoc] at hw
  have hc := chansP_right q f p f.chans 0
  have hb97 : Rights (belowP 97 (f.gain + 64).toNat) := belowP_right (by decide) (by omega)
  have hside : Rights (if n = 2 then bitsP 1 (if f.side then 1 else 0) else []) := by
    split
    · exact bitsP_right _ _
    · exact Rights.nil
  have hw1 := within_pre ((hside.append ((bitsP_right _ _).append hb97)).append hc) hw
  obtain ⟨a1, a2⟩ := at_flag h0 hx0 hw1
  rw [Iv.parts_append, List.append_assoc] at hw
  have hx1 := Iv.parts_fits hx0 (bitsP_right 1 (if f.short then 1 else 0))
  have hw2 := within_pre (((bitsP_right _ _).append hb97).append hc) hw
  have hbs : decide ((if n = 2 then gbitsV 1 (gbitsV 1 (Dec.start S)).2 else (0, (gbitsV 1 (Dec.start S)).2)).1 = 1) = f.side ∧ (if n = 2 then gbitsV 1 (gbitsV 1 (Dec.start S)).2 else (0, (gbitsV 1 (Dec.start S)).2)).2.At S ((Iv.start.parts (bitsP 1 (if f.short then 1 else 0))).parts (if n = 2 then bitsP 1 (if f.side then 1 else 0) else [])) := by
    by_cases hn : n = 2
    · rw [if_pos hn] at hw2 ⊢
      rw [if_pos hn]
      exact at_flag a2 hx1 hw2
    · rw [if_neg hn, if_neg hn]
      have hn1 : n = 1 := by have := hF.1; omega
      refine ⟨?_, a2⟩
      cases hs : f.side with
      | true => exact absurd ⟨hs, hn1⟩ hF.2.2.1
      | false => rfl
  obtain ⟨b1, b2⟩ := hbs
  rw [Iv.parts_append, List.append_assoc] at hw
  have hx2 := Iv.parts_fits hx1 hside
  have hw3 := within_pre (hb97.append hc) hw
  obtain ⟨c1, c2⟩ := at_flag b2 hx2 hw3
  rw [Iv.parts_append] at hw
  have hx3 := Iv.parts_fits hx2 (bitsP_right 1 (if f.intra then 1 else 0))
  have hw4 := within_pre hc hw
  obtain ⟨g1, g2, g3⟩ := at_belowO c2 hx3 hgo hw4
  rw [Iv.parts_append] at hw
  have hx4 := Iv.parts_fits hx3 hb97
  have hnl : n.toNat = f.chans.length := by have := hF.2.1; omega
  obtain ⟨d', t1, -⟩ := takeCs_at (l := f.chans) (i := 0) hF.2.2.2.2.2 (hA.imp id fun hA k h1 h2 => by
    have hk : k < p.length := by have := hA.1; have := hF.2.1; omega
    rw [List.getD_eq_getElem?_getD, List.getElem?_eq_getElem hk]
    exact hA.2 _ (List.getElem_mem hk)) g3 hx4 hw
  simp -implicitDefEqProofs only [frameT]
  rw [if_pos g2, c1, hnl, t1, a1, b1, g1]
  have e : f.gain + 64 - 64 = f.gain := by omega
  simp -implicitDefEqProofs only [Option.map_some, e]
/-! how many octets there are -/
theorem bitsP_len8 (n v : Nat) : 8 * (bitsP n v).length ≤ n + 7 := by
  induction n using Nat.strongRecOn with
  | _ n ih =>
    by_cases h : 8 < n
    · rw [bitsP_big h, List.length_cons]
      have := ih (n - 8) (by omega)
      omega
    · by_cases h0 : 0 < n
      · rw [bitsP_few h h0]; simp; omega
      · obtain rfl : n = 0 := by omega
        rw [bitsP_none]; simp
theorem belowP_len4 (n v : Nat) : (belowP n v).length ≤ 4 := by
  have h1 := shiftOf_le n
  have h2 := bitsP_len8 (shiftOf n) (v % 2 ^ shiftOf n)
  simp -implicitDefEqProofs only [belowP, List.length_cons]
  omega
theorem belowO_len4 (v n : Int) : ((belowO v n).getD []).length ≤ 4 := by
  unfold belowO
  split
  · exact belowP_len4 _ _
  · exact Nat.zero_le _
theorem dP_len (d : Int) : (dP d).length ≤ 6 := by
  unfold dP deltaO
  split
  · have h1 := bitsP_len8 1 1
    have h2 := bitsP_len8 1 0
    have h3 := belowP_len4 64 (d - 4).toNat
    have h4 := belowP_len4 64 (-d - 4).toNat
    rw [Option.getD_some]
    unfold deltaP
    split
    · simp
    · split <;> simp -implicitDefEqProofs only [List.length_cons, List.length_append] <;> omega
  · exact Nat.zero_le _
theorem fP_len (b : BandD) : (fP b).length ≤ 1 := by
  unfold fP
  split
  · unfold bitsO
    split
    · have := bitsP_len8 2 b.f.toNat
      show (bitsP 2 b.f.toNat).length ≤ 1
      omega
    · exact Nat.zero_le _
  · exact Nat.zero_le _
theorem pP_len (q : Int) (n : Nat) (b : BandD) : (pP q n b).length ≤ 4 := by
  unfold pP
  split
  · exact belowO_len4 _ _
  · exact Nat.zero_le _
theorem dPs_len : ∀ l : List Int, (dPs l).length ≤ 6 * l.length
  | [] => Nat.le_refl _
  | d :: l => by
    have h1 := dP_len d
    have h2 := dPs_len l
    have : dPs (d :: l) = dP d ++ dPs l := rfl
    rw [this, List.length_append, List.length_cons]
    omega
theorem fPs_len : ∀ l : List BandD, (fPs l).length ≤ l.length
  | [] => Nat.le_refl _
  | b :: l => by
    have h1 := fP_len b
    have h2 := fPs_len l
    have : fPs (b :: l) = fP b ++ fPs l := rfl
    rw [this, List.length_append, List.length_cons]
    omega
theorem pPs_len (q : Int) : ∀ (l : List BandD) (n : Nat), (pPs q n l).length ≤ 4 * l.length
  | [], _ => Nat.le_refl _
  | b :: l, n => by
    have h1 := pP_len q n b
    have h2 := pPs_len q l (n + 1)
    have : pPs q n (b :: l) = pP q n b ++ pPs q (n + 1) l := rfl
    rw [this, List.length_append, List.length_cons]
    omega
theorem chansP_len {q : Int} {f : FrameD} {p : List (List Int)} : ∀ {l : List (List BandD)} {i : Nat}, (∀ c ∈ l, c.length = 13) → (chansP q f p i l).length ≤ 143 * l.length
  | [], _, _ => Nat.le_refl _
  | c :: l, i, hc => by
    have h0 := hc c (by simp)
    have h2 := chansP_len (q := q) (f := f) (p := p) (l := l) (i := i + 1) (fun z hz => hc z (by simp [hz]))
    have h3 := deltasO_length f.intra (lastN f p i) (c.map BandD.c)
    have h4 := dPs_len (deltasO f.intra (lastN f p i) (c.map BandD.c))
    have h5 := fPs_len c
    have h6 := pPs_len q c 0
    rw [List.length_map] at h3
    unfold chansP chanP
    rw [List.length_append, List.length_append, List.length_append, List.length_cons]
    omega
theorem frame_short {f : FrameD} {n q : Int} {p : List (List Int)} (hF : FitP f n q) : (Iv.start.parts (frameP f n q p)).ends.length ≤ 1024 := by
  have h1 := Iv.parts_n (frameP f n q p) Iv.start
  have h2 : (Iv.start.parts (frameP f n q p)).ends.length ≤ (Iv.start.parts (frameP f n q p)).n + 4 := by
    unfold Iv.ends
    refine Nat.le_trans (trim_length _) ?_
    rw [dig_length]
    exact Nat.le_refl _
  have h3 : (headP f n).length ≤ 10 := by
    have a1 := bitsP_len8 1 (if f.short then 1 else 0)
    have a2 := bitsP_len8 1 (if f.side then 1 else 0)
    have a3 := bitsP_len8 1 (if f.intra then 1 else 0)
    have a4 := belowO_len4 (f.gain + 64) 97
    have a5 : (if n = 2 then bitsP 1 (if f.side then 1 else 0) else []).length ≤ 1 := by
      split
      · omega
      · exact Nat.zero_le _
    unfold headP
    simp -implicitDefEqProofs only [List.length_append]
    omega
  have h4 := chansP_len (q := q) (f := f) (p := p) (l := f.chans) (i := 0) (fun c hc => (hF.2.2.2.2.2 c hc).1)
  have h5 : f.chans.length ≤ 2 := by have := hF.1; have := hF.2.1; omega
  have h6 : Iv.start.n = 0 := rfl
  unfold frameP at h1 ⊢
  unfold frameP at h2
  rw [List.length_append] at h1
  omega
end SplA

/- Rows and pulses that are read. -/
namespace SplA
open Go.Proofs.YtooogfnmhfocjaaDoor.Spl Go Go.Proofs
set_option maxRecDepth 100000
set_option linter.unusedVariables false
set_option linter.unusedSimpArgs false

theorem erow_ok {K L : Nat → Prop} {intra : Bool} {p d : List Int} {v w : AV} {m : Mem} {Q : AV → Mem → Prop} (hp : IntsR K m v p) (hK : ∀ b, K b → b < m.next) (hd : IntsR L m w d) (hL : ∀ b, L b → b < m.next) (hbn : m.base ≤ m.next) (hlp : p.length ≤ 4611686018427387904)
    (hq : ∀ m' u r, RowO intra p d = some r → Same m m' → IntsR (fun b => m.next ≤ b ∧ b < m'.next) m' u r → Q (.tup [u, .bool true]) m')
    (hq0 : ∀ m', RowO intra p d = none → Same m m' → Q (.tup [.nilslice, .bool false]) m') : Ok (R fn_energy_Row [.bool intra, v, w]) m Q := by
  refine Ok.call (fun n => energy_Row_eq rfl n _ _ _) ?_
  simp -implicitDefEqProofs only [energy_Row, simpS, Nat.reduceAdd, hd.len]
  have hbad : ∀ m', Same m m' → RowO intra p d = none → Ok (fun n => energy_Row_j0 (fcall Tryd.prog ext1 n) n (.bool intra) v w (.bool true)) m' Q := by
    intro m' hS h
    simp -implicitDefEqProofs only [energy_Row_j0, simpS, Nat.reduceAdd, if_true]
    exact hq0 m' h hS
  have hsome : (d.length = 13 ∧ (intra = true ∨ RightP p)) → Ok (fun n => energy_Row_j0 (fcall Tryd.prog ext1 n) n (.bool intra) v w (.bool false)) m Q := by
    intro hD
    have hro : RowO intra p d = rowD intra p 0 0 d := if_pos hD
    rw [hro] at hq hq0
    simp -implicitDefEqProofs only [energy_Row_j0, mc_false]
    refine Ok.bnd (expects_ok hp hK hD.2 fun m1 F hS1 hF => ?_)
    have h13 := hD.1
    have hz : (d.length : Int) = ((13 : Nat) : Int) := by omega
    simp -implicitDefEqProofs only [hd.len, lp_some', hz, ok_mkSlice1 (show 8 * 13 ≤ 35184372088832 by decide)]
    have hS2 := hS1.trans (Same.alloc m1 (.cells T_int 0 (List.replicate 13 (.int .i64 0))))
    have hS12 := Same.alloc m1 (.cells T_int 0 (List.replicate 13 (.int .i64 0)))
    have hg2 := Mem.get_alloc m1 (.cells T_int 0 (List.replicate 13 (.int .i64 0)))
    have hbn1 : (m1.alloc (.cells T_int 0 (List.replicate 13 (.int .i64 0)))).base ≤ m1.next := hS1.bn hbn
    have hnx2 : m1.next < (m1.alloc (.cells T_int 0 (List.replicate 13 (.int .i64 0)))).next := Nat.lt_succ_self _
    generalize m1.alloc (.cells T_int 0 (List.replicate 13 (.int .i64 0))) = m2 at *
    refine Ok.loop (fun k z m' => ∃ (i : Nat) (last : Int) (done : List Int) (a1 a2 a3 a4 : AV), k + i = 13 ∧ z = [F, .slice m1.next 0 13 1, .int .i64 last, w, .int .i64 (13 : Nat), .int .i64 i, a1, a2, a3, a4] ∧ done.length = i ∧ (0 ≤ last ∧ last ≤ 23) ∧ m'.get m1.next = .cells T_int 0 (done.map (fun x => .int .i64 x) ++ List.replicate (13 - i) (.int .i64 0)) ∧ (rowD intra p i last (d.drop i)).map (fun r => done ++ r) = rowD intra p 0 0 d ∧ Chg (fun b => b = m1.next) m2 m') ?_ (k := 13) ⟨0, 0, [], _, _, _, _, rfl, rfl, rfl, by decide, hg2, by simp, Chg.refl _ _⟩
    clear hg2
    rintro k z m' rec ⟨i, last, done, a1, a2, a3, a4, hk, rfl, hdn, hla, hg, he, hch⟩ ih
    have hS := hS2.own (hS1.next) hch
    have hS1' := hS12.own (Nat.le_refl _) hch
    have hd' := hd.keep (m' := m') (fun b hb => hS.get (hL b hb))
    by_cases h2 : i < 13
    · have d3 : (i : Int) < ((13 : Nat) : Int) := by omega
      obtain ⟨x, hx, hdrop⟩ := drop_cons' (l := d) (i := i) (by omega)
      obtain ⟨b', o, ce, hix, hKb, -, ⟨rfl, -⟩, -, hld⟩ := hd'.at hx
      have hld0 : load? none (.ptr b' o) m' = some (.int .i64 x) := hld 0 _ rfl
      have hex := expN_in (b := i) hD.2 hla
      rw [hdrop] at he
      obtain ⟨heP, heN⟩ := rowD_step he
      simp -implicitDefEqProofs only [List.getD_cons_zero, List.getD_cons_succ, energy_Row_l0, simpS, Nat.reduceAdd, d3, decide_true, if_true, hix, hld0]
      by_cases c1 : x < -67
      · simp -implicitDefEqProofs only [c1, decide_true, if_true, energy_Row_j1, simpS, Nat.reduceAdd]
        exact hq0 m' (heN (fun h => by have := h.1; omega)) hS
      by_cases c2 : 67 < x
      · simp -implicitDefEqProofs only [c1, c2, decide_true, decide_false, Bool.false_eq_true, if_false, if_true, energy_Row_j1, simpS, Nat.reduceAdd]
        exact hq0 m' (heN (fun h => by have := h.1; omega)) hS
      simp -implicitDefEqProofs only [c1, c2, decide_false, Bool.false_eq_true, if_false, energy_Row_j1, simpS, Nat.reduceAdd]
      refine hF m' hS1' i last _ _ h2 hla ?_
      have e1 : IntKind.i64.wrap (expN intra p i last + x) = expN intra p i last + x := IntWalk.i64_in _ (by omega)
      have e2 : IntKind.i64.wrap ((i : Int) + 1) = ((i + 1 : Nat) : Int) := by rw [IntWalk.i64_in _ (by omega)]; omega
      have i2 := aIdxS_at (size := 1) (i := m1.next) (o := 0) (n := 13) (e := 1) (kd := .i64) h2
      have hbm : m'.base ≤ m1.next := by rw [hch.base]; exact hbn1
      have hset := set_fill (fun x => AV.int .i64 x) (.int .i64 0) done (expN intra p i last + x) (13 - (i + 1))
      rw [show 13 - (i + 1) + 1 = 13 - i by omega, hdn] at hset
      have hst := fun (k : Nat → AV → M AV) => ok_store (k := k) (Q := Q) (o := i) (v := .int .i64 (expN intra p i last + x)) hg hbm (Nat.zero_le _) (by simp; omega) (by simp)
      have hch' := hch.trans (Chg.set m' m1.next (.cells T_int 0 ((done ++ [expN intra p i last + x]).map (fun x => AV.int .i64 x) ++ List.replicate (13 - (i + 1)) (.int .i64 0)))) (fun _ _ h => h)
      have hS' := hS2.own (hS1.next) hch'
      simp -implicitDefEqProofs only [simpS, Nat.reduceAdd, e1, i2, Nat.mul_one, hst, hset]
      by_cases c3 : expN intra p i last + x < 0
      · simp -implicitDefEqProofs only [c3, decide_true, if_true, energy_Row_j2, simpS, Nat.reduceAdd]
        exact hq0 _ (heN (fun h => by have := h.2; omega)) hS'
      by_cases c4 : 23 < expN intra p i last + x
      · simp -implicitDefEqProofs only [c3, c4, decide_true, decide_false, Bool.false_eq_true, if_false, if_true, energy_Row_j2, simpS, Nat.reduceAdd]
        exact hq0 _ (heN (fun h => by have := h.2; omega)) hS'
      simp -implicitDefEqProofs only [c3, c4, decide_false, Bool.false_eq_true, if_false, energy_Row_j2, simpS, Nat.reduceAdd, e2]
      exact ih (k - 1) _ _ (by omega) ⟨i + 1, _, done ++ [expN intra p i last + x], _, _, _, _, by omega, rfl, by simp [hdn], by omega, by simp, heP ⟨by omega, by omega, by omega⟩, hch'⟩
    · obtain rfl : i = 13 := by omega
      have d3 : ¬ ((13 : Nat) : Int) < ((13 : Nat) : Int) := by decide
      have hnil : d.drop 13 = [] := List.drop_eq_nil_of_le (by omega)
      rw [hnil, rowD, Option.map_some, List.append_nil] at he
      simp -implicitDefEqProofs only [List.getD_cons_zero, List.getD_cons_succ, energy_Row_l0, simpS, Nat.reduceAdd, d3, decide_false, Bool.false_eq_true, if_false]
      refine hq m' _ done he.symm hS ?_
      have := slR_own (K := fun b => m.next ≤ b ∧ b < m'.next) (R := RInt .i64) (f := fun x => .int .i64 x) (m := m') (i := m1.next) (ty := T_int) (fz := 0) (e := 1) (l := done) ⟨hS1.next, Nat.lt_of_lt_of_le hnx2 hch.next⟩ (by rw [hg]; simp) (fun x hx => ⟨rfl, ?_⟩)
      · rw [hdn] at this
        exact this
      · have := (rowD_in he.symm).2 x hx
        exact wf_i64 (by omega)
  by_cases h1 : d.length = 13
  · have d1 : ¬ (d.length : Int) ≠ 13 := by omega
    simp -implicitDefEqProofs only [d1, decide_false, Bool.false_eq_true, if_false]
    cases intra with
    | true =>
      simp -implicitDefEqProofs only [Bool.not_true, Bool.false_eq_true, if_false]
      exact hsome ⟨h1, .inl rfl⟩
    | false =>
      simp -implicitDefEqProofs only [Bool.not_false, if_true]
      refine Ok.bnd (eright_ok hp hlp ?_)
      by_cases h2 : RightP p
      · simp -implicitDefEqProofs only [h2, decide_true, simpS, Nat.reduceAdd, Bool.not_true]
        exact hsome ⟨h1, .inr h2⟩
      · simp -implicitDefEqProofs only [h2, decide_false, simpS, Nat.reduceAdd, Bool.not_false]
        exact hbad m (Same.refl m) (if_neg (fun h => by rcases h.2 with h | h; cases h; exact h2 h))
  · have d1 : (d.length : Int) ≠ 13 := by omega
    simp -implicitDefEqProofs only [d1, ne_eq, not_false_eq_true, decide_true, if_true]
    exact hbad m (Same.refl m) (if_neg (fun h => h1 h.1))

/-! pulses -/
theorem first_ok {t r k i : Nat} {m : Mem} {Q : AV → Mem → Prop} (hr : r < 8) (hk : k < 25) (h : i < pvT (r + 1) k) (hg : m.get t = .cells T_pvq_table 0 (pvTab fun _ _ => true))
    (hq : Q (.tup [.int .i64 (firstN (pvT r) k i).1, .int .i64 (firstN (pvT r) k i).2]) m) : Ok (R fn_pvq_first [.ptr t (r * 25), .int .i64 k, .int .i64 i]) m Q := by
  refine Ok.call (fun n => pvq_first_eq rfl n _ _ _) ?_
  have hlow := h
  rw [← lowN_full r k hk] at hlow
  have hi40 := pvT_small (r + 1) (by omega) k hk
  have hcell : ∀ c, c < 25 → (pvTab fun _ _ => true)[r * 25 + c]? = some (.int .i64 (pvT r c : Nat)) := fun c hc => pvTab_get (by omega) hc rfl
  have hidx : ∀ c : Nat, c < 25 → aIdxA 25 1 (.ptr t (r * 25)) (.int .i64 (c : Int)) = some (.ptr t (r * 25 + c)) := fun c hc => by rw [aIdxA_at hc]; simp
  unfold firstN at hq
  have hkk := hcell k hk
  simp -implicitDefEqProofs only [pvq_first, aNil_ptr, lp_some', hidx k hk, ok_load, load_at hg, hkk, Option.some.injEq, exists_eq_left', aBin_lss, ok_mc]
  by_cases c0 : i < pvT r k
  · have d0 : (i : Int) < (pvT r k : Int) := by omega
    rw [if_pos c0] at hq
    simp -implicitDefEqProofs only [simpS, Nat.reduceAdd, d0, decide_true, if_true]
    exact hq
  · have d0 : ¬ (i : Int) < (pvT r k : Int) := by omega
    rw [if_neg c0] at hq
    have e0 : IntKind.i64.wrap ((i : Int) - (pvT r k : Int)) = ((i - pvT r k : Nat) : Int) := by rw [IntWalk.i64_in _ (by omega)]; omega
    simp -implicitDefEqProofs only [simpS, Nat.reduceAdd, d0, decide_false, Bool.false_eq_true, if_false, hidx k hk, load_at hg, hkk, e0]
    generalize hz0 : firstL (pvT r) k k 1 (i - pvT r k) = z0 at hq
    refine Ok.loop (fun f l m' => m' = m ∧ ∃ mm i' : Nat, l = [.ptr t (r * 25), .int .i64 k, .int .i64 i', .int .i64 mm] ∧ 1 ≤ mm ∧ mm + f = k + 1 ∧ i' + lowN (pvT r) k mm = i ∧ firstL (pvT r) k f mm i' = z0) ?_ (k := k) ⟨rfl, 1, i - pvT r k, rfl, Nat.le_refl _, by omega, by rw [lowN_one]; omega, hz0⟩
    rintro f l m' rec ⟨rfl, mm, i', rfl, hm, hf, hs, hz⟩ ih
    have hmk := (firstL_in hlow hm hs hf).1
    have hsucc := lowN_succ (r := pvT r) (k := k) hm
    obtain ⟨f, rfl⟩ : ∃ g, f = g + 1 := ⟨f - 1, by omega⟩
    unfold firstL at hz
    have hc := hcell (k - mm) (by omega)
    have hx := hidx (k - mm) (by omega)
    have hsm := pvT_small r (by omega) (k - mm) (by omega)
    have e1 : IntKind.i64.wrap ((k : Int) - (mm : Int)) = ((k - mm : Nat) : Int) := by rw [IntWalk.i64_in _ (by omega)]; omega
    generalize pvT r (k - mm) = T at *
    have e2 : IntKind.i64.wrap (2 * (T : Int)) = ((2 * T : Nat) : Int) := by rw [IntWalk.i64_in _ (by omega)]; omega
    simp -implicitDefEqProofs only [List.getD_cons_zero, List.getD_cons_succ, pvq_first_l0, simpS, Nat.reduceAdd, e1, hx, load_at hg, hc, e2]
    by_cases c1 : 2 * T ≤ i'
    · have d1 : ((2 * T : Nat) : Int) ≤ (i' : Int) := by omega
      have e3 : IntKind.i64.wrap ((i' : Int) - ((2 * T : Nat) : Int)) = ((i' - 2 * T : Nat) : Int) := by rw [IntWalk.i64_in _ (by omega)]; omega
      have e4 : IntKind.i64.wrap ((mm : Int) + 1) = ((mm + 1 : Nat) : Int) := by rw [IntWalk.i64_in _ (by omega)]; omega
      rw [if_pos c1] at hz
      simp -implicitDefEqProofs only [simpS, Nat.reduceAdd, d1, decide_true, if_true, hx, load_at hg, hc, e2, e3, e4]
      exact ih f _ _ (by omega) ⟨rfl, mm + 1, i' - 2 * T, rfl, by omega, by omega, by omega, hz⟩
    · have d1 : ¬ ((2 * T : Nat) : Int) ≤ (i' : Int) := by omega
      rw [if_neg c1] at hz
      simp -implicitDefEqProofs only [simpS, Nat.reduceAdd, d1, decide_false, Bool.false_eq_true, if_false, hx, load_at hg, hc]
      by_cases c2 : T ≤ i'
      · have d2 : (T : Int) ≤ (i' : Int) := by omega
        have e3 : IntKind.i64.wrap ((i' : Int) - (T : Int)) = ((i' - T : Nat) : Int) := by rw [IntWalk.i64_in _ (by omega)]; omega
        have e4 : IntKind.i64.wrap (0 - (mm : Int)) = -(mm : Int) := by rw [IntWalk.i64_in _ (by omega)]; omega
        rw [if_pos c2] at hz
        rw [← hz] at hq
        simp -implicitDefEqProofs only [simpS, Nat.reduceAdd, d2, decide_true, if_true, hx, load_at hg, hc, e3, e4]
        exact hq
      · have d2 : ¬ (T : Int) ≤ (i' : Int) := by omega
        rw [if_neg c2] at hz
        rw [← hz] at hq
        simp -implicitDefEqProofs only [simpS, Nat.reduceAdd, d2, decide_false, Bool.false_eq_true, if_false]
        exact hq

theorem vector_ok {n k i : Int} {m : Mem} {Q : AV → Mem → Prop} (hbn : m.base ≤ m.next)
    (hq : ∀ m' u, Same m m' → VecR (fun b => m.next ≤ b ∧ b < m'.next) m' u (vecO n k i) → Q (vecV u (vecO n k i)) m') : Ok (R fn_pvq_Vector [.int .i64 n, .int .i64 k, .int .i64 i]) m Q := by
  refine Ok.call (fun q => pvq_Vector_eq rfl q _ _ _) ?_
  have hbad : ∀ m', Same m m' → ¬ (1 ≤ n ∧ 0 ≤ i ∧ i < countN n k) → Ok (fun q => pvq_Vector_j0 (fcall Tryd.prog ext1 q) q (.int .i64 n) (.int .i64 k) (.int .i64 i) (.bool true)) m' Q := by
    intro m' hS h
    have e : vecO n k i = none := if_neg h
    rw [e] at hq
    simp -implicitDefEqProofs only [pvq_Vector_j0, simpS, Nat.reduceAdd, if_true]
    exact hq m' .nilslice hS (.inl ⟨.inl rfl, rfl⟩)
  simp -implicitDefEqProofs only [pvq_Vector, simpS, Nat.reduceAdd]
  by_cases h1 : n < 1
  · simp -implicitDefEqProofs only [h1, decide_true, if_true]
    exact hbad m (Same.refl m) (by omega)
  by_cases h2 : i < 0
  · simp -implicitDefEqProofs only [h1, h2, decide_true, decide_false, Bool.false_eq_true, if_false, if_true]
    exact hbad m (Same.refl m) (by omega)
  simp -implicitDefEqProofs only [h1, h2, decide_false, Bool.false_eq_true, if_false]
  refine Ok.bnd (count_ok hbn fun m1 hS1 => ?_)
  by_cases h3 : (countN n k : Int) ≤ i
  · simp -implicitDefEqProofs only [simpS, Nat.reduceAdd, h3, decide_true]
    exact hbad m1 hS1 (by omega)
  simp -implicitDefEqProofs only [simpS, Nat.reduceAdd, h3, decide_false, pvq_Vector_j0, Bool.false_eq_true, if_false]
  obtain ⟨hv, hn8, hk0, hk24, hi⟩ := vecO_some (n := n) (k := k) (i := i) ⟨by omega, by omega, by omega⟩
  rw [hv] at hq
  obtain ⟨n, rfl⟩ : ∃ a : Nat, n = a := ⟨n.toNat, by omega⟩
  obtain ⟨k, rfl⟩ : ∃ a : Nat, k = a := ⟨k.toNat, by omega⟩
  obtain ⟨i, rfl⟩ : ∃ a : Nat, i = a := ⟨i.toNat, by omega⟩
  simp -implicitDefEqProofs only [Int.toNat_natCast] at hq hi hv
  refine Ok.bnd (made_ok (hS1.bn hbn) fun m2 t hS2 ht1 ht2 ht => ?_)
  have hS02 := hS1.trans hS2
  simp -implicitDefEqProofs only [ok_mkSlice1 (show 8 * n ≤ 35184372088832 by omega), aLenS_slice, lp_some']
  have hS3 := Same.alloc m2 (.cells T_int 0 (List.replicate n (.int .i64 0)))
  have hS03 := hS02.trans hS3
  have hg3 := Mem.get_alloc m2 (.cells T_int 0 (List.replicate n (.int .i64 0)))
  have ht3 := (hS3.get ht2).trans ht
  have hbn2 : (m2.alloc (.cells T_int 0 (List.replicate n (.int .i64 0)))).base ≤ m2.next := hS02.bn hbn
  have hnx2 : m2.next < (m2.alloc (.cells T_int 0 (List.replicate n (.int .i64 0)))).next := Nat.lt_succ_self _
  generalize m2.alloc (.cells T_int 0 (List.replicate n (.int .i64 0))) = m3 at *
  refine Ok.loop (fun f z m' => ∃ (at' k' i' : Nat) (done : List Int), f + at' = n ∧ z = [.int .i64 n, .int .i64 k', .int .i64 i', .ptr t 0, .slice m2.next 0 n 1, .int .i64 n, .int .i64 at'] ∧ done.length = at' ∧ k' < 25 ∧ i' < pvT (n - at') k' ∧ done ++ vecN (n - at') k' i' = vecN n k i ∧ m'.get m2.next = .cells T_int 0 (done.map (fun x => .int .i64 x) ++ List.replicate (n - at') (.int .i64 0)) ∧ Chg (fun b => b = m2.next) m3 m') ?_ (k := n) ⟨0, k, i, [], by omega, rfl, rfl, by omega, by simpa using hi, by simp, by simpa using hg3, Chg.refl _ _⟩
  clear hg3
  rintro f z m' rec ⟨at', k', i', done, hf, rfl, hdn, hk', hi', he, hg, hch⟩ ih
  have hS := hS03.own (hS02.next) hch
  have htt : m'.get t = .cells T_pvq_table 0 (pvTab fun _ _ => true) := (hch.get t (Nat.lt_trans ht2 hnx2) (by omega)).trans ht3
  have hbm : m'.base ≤ m2.next := by rw [hch.base]; exact hbn2
  by_cases h4 : at' < n
  · have d4 : (at' : Int) < (n : Int) := by omega
    have e1 : IntKind.i64.wrap ((n : Int) - 1) = (n : Int) - 1 := IntWalk.i64_in _ (by omega)
    have e2 : IntKind.i64.wrap ((n : Int) - 1 - (at' : Int)) = ((n - (at' + 1) : Nat) : Int) := by rw [IntWalk.i64_in _ (by omega)]; omega
    have i1 : aIdxA 9 25 (.ptr t 0) (.int .i64 ((n - (at' + 1) : Nat) : Int)) = some (.ptr t ((n - (at' + 1)) * 25)) := by rw [aIdxA_at (by omega)]; simp
    have hsub : n - at' = n - (at' + 1) + 1 := by omega
    rw [hsub] at hi' he hg
    simp -implicitDefEqProofs only [List.getD_cons_zero, List.getD_cons_succ, pvq_Vector_l0, simpS, Nat.reduceAdd, d4, decide_true, if_true, e1, e2, i1]
    refine Ok.bnd (first_ok (by omega) hk' hi' htt ?_)
    rw [← lowN_full _ k' hk'] at hi'
    obtain ⟨hz1, hz2⟩ := firstN_in hi'
    rw [vecN] at he
    generalize firstN (pvT (n - (at' + 1))) k' i' = z at *
    have i2 := aIdxS_at (size := 1) (i := m2.next) (o := 0) (n := n) (e := 1) (kd := .i64) h4
    have hset := set_fill (fun x => AV.int .i64 x) (.int .i64 0) done z.1 (n - (at' + 1))
    rw [hdn] at hset
    have hst := fun (k : Nat → AV → M AV) => ok_store (k := k) (Q := Q) (o := at') (v := .int .i64 z.1) hg hbm (Nat.zero_le _) (by simp; omega) (by simp)
    have hg' := Mem.get_set m' m2.next (.cells T_int 0 ((done ++ [z.1]).map (fun x => AV.int .i64 x) ++ List.replicate (n - (at' + 1)) (.int .i64 0)))
    have hch' := hch.trans (Chg.set m' m2.next (.cells T_int 0 ((done ++ [z.1]).map (fun x => AV.int .i64 x) ++ List.replicate (n - (at' + 1)) (.int .i64 0)))) (fun _ _ h => h)
    have hcell : ((done ++ [z.1]).map (fun x => AV.int .i64 x) ++ List.replicate (n - (at' + 1)) (.int .i64 0))[at']? = some (.int .i64 z.1) := by
      rw [List.getElem?_append_left (by simp; omega), List.getElem?_map, List.getElem?_append_right (by omega)]
      simp [hdn]
    simp -implicitDefEqProofs only [aExt, simpS, Nat.reduceAdd, i2, Nat.mul_one, hst, hset]
    generalize m'.set m2.next (.cells T_int 0 ((done ++ [z.1]).map (fun x => AV.int .i64 x) ++ List.replicate (n - (at' + 1)) (.int .i64 0))) = m4 at *
    have hnx4 : m2.next < m4.next := Nat.lt_of_lt_of_le hnx2 hch'.next
    simp -implicitDefEqProofs only [load_at hg', hcell, Option.some.injEq, exists_eq_left']
    refine Ok.bnd (abs_ok (by omega) fun m5 hS5 => ?_)
    have e3 : IntKind.i64.wrap ((k' : Int) - (z.1.natAbs : Int)) = ((k' - z.1.natAbs : Nat) : Int) := by rw [IntWalk.i64_in _ (by omega)]; omega
    have e4 : IntKind.i64.wrap ((at' : Int) + 1) = ((at' + 1 : Nat) : Int) := by rw [IntWalk.i64_in _ (by omega)]; omega
    simp -implicitDefEqProofs only [simpS, Nat.reduceAdd, e3, e4]
    refine ih (f - 1) _ _ (by omega) ⟨at' + 1, k' - z.1.natAbs, z.2, done ++ [z.1], by omega, rfl, by simp [hdn], by omega, hz2, by rw [List.append_assoc]; exact he, (hS5.get hnx4).trans hg', hch'.trans (hS5.mono fun _ _ h => h.elim) (fun _ _ h => h)⟩
  · obtain rfl : at' = n := by omega
    have d4 : ¬ (at' : Int) < (at' : Int) := by omega
    rw [Nat.sub_self, vecN, List.append_nil] at he
    subst he
    simp -implicitDefEqProofs only [List.getD_cons_zero, List.getD_cons_succ, pvq_Vector_l0, simpS, Nat.reduceAdd, d4, decide_false, Bool.false_eq_true, if_false]
    refine hq m' _ hS ?_
    have := slR_own (K := fun b => m.next ≤ b ∧ b < m'.next) (R := RInt .i64) (f := fun x => .int .i64 x) (m := m') (i := m2.next) (ty := T_int) (fz := 0) (e := 1) (l := vecN at' k i) ⟨hS02.next, Nat.lt_of_lt_of_le hnx2 hch.next⟩ (by rw [hg]; simp) (fun x hx => ⟨rfl, ?_⟩)
    · rw [hdn] at this
      exact this
    · have := vecN_in (by omega) hi x hx
      exact wf_i64 (by omega)
end SplA

/- The reader of frames: numbers and rows. -/
namespace SplA
open Go.Proofs.YtooogfnmhfocjaaDoor.Spl Go Go.Proofs
set_option maxRecDepth 100000
set_option linter.unusedVariables false
set_option linter.unusedSimpArgs false

theorem gbelowV_lt (n : Int) (d : Dec) : ((gbelowV n d).1.1 : Int) = 0 ∨ ((gbelowV n d).1.1 : Int) < n := by
  unfold gbelowV
  split
  · dsimp only
    split
    · right; dsimp only; omega
    · exact .inl rfl
  · exact .inl rfl
theorem gdelta_in (d : Dec) : -67 ≤ (gdelta d).1 ∧ (gdelta d).1 ≤ 67 := by
  unfold gdelta
  split
  · rename_i v h
    unfold nearV at h
    have hv : -67 ≤ v ∧ v ≤ 67 := by
      repeat' split at h
      all_goals (cases h <;> first | decide | omega)
    exact hv
  · unfold gfar
    dsimp only
    have := gbelowV_lt 64 (gbits 1 0 (d.take 56 64 64)).2
    split <;> omega
theorem takeDs_in : ∀ n d, ∀ x ∈ (takeDs n d).1, -67 ≤ x ∧ x ≤ 67
  | 0, _, x, h => by simp [takeDs] at h
  | n + 1, d, x, h => by
    simp -implicitDefEqProofs only [takeDs, List.mem_cons] at h
    rcases h with rfl | h
    · exact gdelta_in d
    · exact takeDs_in n _ x h
theorem gbits2_lt (d : Dec) : (gbitsV 2 d).1 < 4 := by
  have := gbits_lt (n := 2) 0 0 d (by decide)
  exact this

/-- A reader: its object, and its decoder's. -/
structure RdrAt (m : Mem) (i j : Nat) (q : Int) (bad : Bool) (d : Dec) : Prop where
  get : m.get i = .cells T_code_reader 0 [.ptr j 0, .int .i64 q, .bool bad]
  base : m.base ≤ i
  next : i < m.next
  ne : i ≠ j
  dec : DecAt m j d
theorem RdrAt.bn {m : Mem} {i j : Nat} {q : Int} {bad : Bool} {d : Dec} (h : RdrAt m i j q bad d) : m.base ≤ m.next := by have := h.base; have := h.next; omega
theorem RdrAt.chg {F : Nat → Prop} {m m' : Mem} {i j : Nat} {q : Int} {bad : Bool} {d : Dec} (h : RdrAt m i j q bad d) (hc : Chg F m m') (hi : ¬ F i) (hj : ¬ F j) : RdrAt m' i j q bad d :=
  ⟨(hc.get i h.next hi).trans h.get, by rw [hc.base]; exact h.base, Nat.lt_of_lt_of_le h.next hc.next, h.ne, h.dec.chg hc hj⟩
theorem RdrAt.same {m m' : Mem} {i j : Nat} {q : Int} {bad : Bool} {d : Dec} (h : RdrAt m i j q bad d) (hS : Same m m') : RdrAt m' i j q bad d := h.chg hS id id
theorem RdrAt.took {m m' : Mem} {i j : Nat} {q : Int} {bad : Bool} {d d' : Dec} (h : RdrAt m i j q bad d) (h1 : DecAt m' j d') (hc : Chg (fun b => b = j) m m') : RdrAt m' i j q bad d' :=
  ⟨(hc.get i h.next h.ne).trans h.get, by rw [hc.base]; exact h.base, Nat.lt_of_lt_of_le h.next hc.next, h.ne, h1⟩
theorem RdrAt.turn {m : Mem} {i j : Nat} {q : Int} {bad : Bool} {d : Dec} (h : RdrAt m i j q bad d) (b : Bool) : RdrAt (m.set i (.cells T_code_reader 0 [.ptr j 0, .int .i64 q, .bool b])) i j q b d :=
  ⟨Mem.get_set _ _ _, h.base, h.next, h.ne, h.dec.chg (Chg.set _ _ _) (fun e => h.ne e.symm)⟩
def Ij (i j : Nat) : Nat → Prop := fun b => b = i ∨ b = j
theorem ijJ {i j : Nat} {m m' : Mem} (h : Chg (fun b => b = j) m m') : Chg (Ij i j) m m' := h.mono fun _ _ h => .inr h
theorem ijI {i j : Nat} {m m' : Mem} (h : Chg (fun b => b = i) m m') : Chg (Ij i j) m m' := h.mono fun _ _ h => .inl h
theorem ijT {i j : Nat} {a b c : Mem} (h : Chg (Ij i j) a b) (g : Chg (Ij i j) b c) : Chg (Ij i j) a c := h.trans g (fun _ _ h => h)
theorem ijS {i j : Nat} {m m' : Mem} (h : Same m m') : Chg (Ij i j) m m' := h.mono fun _ _ h => h.elim

theorem rflag_ok {i j : Nat} {q : Int} {bad : Bool} {d : Dec} {m : Mem} {Q : AV → Mem → Prop} (h : RdrAt m i j q bad d)
    (hq : ∀ m', RdrAt m' i j q bad (gbitsV 1 d).2 → Chg (Ij i j) m m' → Q (.bool (decide ((gbitsV 1 d).1 = 1))) m') : Ok (R fn_code_reader_flag [.ptr i 0]) m Q := by
  refine Ok.call (fun n => code_reader_flag_eq rfl n _) ?_
  simp -implicitDefEqProofs only [code_reader_flag, simpS, Nat.reduceAdd, load_at h.get]
  refine Ok.bnd (cbits (n := 1) m d _ h.dec fun m1 h1 hc1 => ?_)
  have e : decide (((gbitsV 1 d).1 : Int) = 1) = decide ((gbitsV 1 d).1 = 1) := decide_eq_decide.2 (by omega)
  simp -implicitDefEqProofs only [simpS, Nat.reduceAdd, e]
  exact hq m1 (h.took h1 hc1) (ijJ hc1)
theorem rbelow_ok {i j : Nat} {q n : Int} {bad : Bool} {d : Dec} {m : Mem} {Q : AV → Mem → Prop} (h : RdrAt m i j q bad d)
    (hq : ∀ m', RdrAt m' i j q (bad || !(gbelowV n d).1.2) (gbelowV n d).2 → Chg (Ij i j) m m' → Q (.int .i64 ((gbelowV n d).1.1 : Nat)) m') : Ok (R fn_code_reader_below [.ptr i 0, .int .i64 n]) m Q := by
  refine Ok.call (fun k => code_reader_below_eq rfl k _ _) ?_
  simp -implicitDefEqProofs only [code_reader_below, simpS, Nat.reduceAdd, load_at h.get]
  refine Ok.bnd (cbelow (n := n) m d _ h.dec fun m1 h1 hc1 => ?_)
  have hr : RdrAt m1 i j q bad (gbelowV n d).2 := h.took h1 hc1
  clear h1
  simp -implicitDefEqProofs only [belowR]
  generalize gbelowV n d = z at *
  have hst := fun (b : Bool) (k : Nat → AV → M AV) => ok_store (k := k) (Q := Q) (o := 2) (v := .bool b) hr.get hr.base (Nat.zero_le _) (by simp) (by simp)
  have hc := fun b => ijT (ijJ hc1) (ijI (j := j) (Chg.set m1 i (.cells T_code_reader 0 [.ptr j 0, .int .i64 q, .bool b])))
  cases bad with
  | true =>
    simp -implicitDefEqProofs only [aExt, simpS, Nat.reduceAdd, load_at hr.get, if_true, hst, code_reader_below_j0]
    exact hq _ (hr.turn true) (hc true)
  | false =>
    simp -implicitDefEqProofs only [aExt, simpS, Nat.reduceAdd, load_at hr.get, Bool.false_eq_true, if_false, hst, code_reader_below_j0]
    exact hq _ (hr.turn _) (hc _)

theorem reader_row_ok {K : Nat → Prop} {intra : Bool} {p : List Int} {v : AV} {i j : Nat} {q : Int} {d : Dec} {m : Mem} {Q : AV → Mem → Prop} (hp : IntsR K m v p) (hK : ∀ b, K b → b < m.next ∧ ¬ Ij i j b) (hlp : p.length ≤ 4611686018427387904) (h : RdrAt m i j q false d)
    (hq : ∀ m' u r, RowO intra p (takeDs 13 d).1 = some r → RdrAt m' i j q false (takeDs 13 d).2 → Chg (Ij i j) m m' → IntsR (fun b => m.next ≤ b ∧ b < m'.next) m' u r → Q u m')
    (hq0 : ∀ m', RowO intra p (takeDs 13 d).1 = none → RdrAt m' i j q true (takeDs 13 d).2 → Chg (Ij i j) m m' → Q .nilslice m') : Ok (R fn_code_reader_row [.ptr i 0, .bool intra, v]) m Q := by
  refine Ok.call (fun k => code_reader_row_eq rfl k _ _ _) ?_
  have h13 : (13 : Int) = ((13 : Nat) : Int) := rfl
  simp -implicitDefEqProofs only [code_reader_row]
  rw [h13]
  simp -implicitDefEqProofs only [ok_mkSlice1 (show 8 * 13 ≤ 35184372088832 by decide), aLenS_slice, lp_some']
  have hS1 := Same.alloc m (.cells T_int 0 (List.replicate 13 (.int .i64 0)))
  have hg1 := Mem.get_alloc m (.cells T_int 0 (List.replicate 13 (.int .i64 0)))
  have hnx1 : m.next < (m.alloc (.cells T_int 0 (List.replicate 13 (.int .i64 0)))).next := Nat.lt_succ_self _
  have hb1 : (m.alloc (.cells T_int 0 (List.replicate 13 (.int .i64 0)))).base ≤ m.next := h.bn
  have hr1 := h.same hS1
  generalize m.alloc (.cells T_int 0 (List.replicate 13 (.int .i64 0))) = m1 at *
  have hne : ∀ b, Ij i j b → b ≠ m.next := by
    intro b hb
    have h1 := h.next
    have h2 := h.dec.next
    rcases hb with rfl | rfl <;> omega
  have hin := takeDs_in 13 d
  generalize hZ : takeDs 13 d = Z at hq hq0 hin
  refine Ok.loop (fun f z m' => ∃ (b : Nat) (done : List Int) (d' : Dec) (a1 a2 : AV), f + b = 13 ∧ z = [.ptr i 0, .bool intra, v, .slice m.next 0 13 1, .int .i64 (13 : Nat), .int .i64 b, a1, a2] ∧ done.length = b ∧ Z = (done ++ (takeDs (13 - b) d').1, (takeDs (13 - b) d').2) ∧ RdrAt m' i j q false d' ∧ m'.get m.next = .cells T_int 0 (done.map (fun x => .int .i64 x) ++ List.replicate (13 - b) (.int .i64 0)) ∧ Chg (fun b => Ij i j b ∨ b = m.next) m1 m') ?_ (k := 13) ⟨0, [], d, _, _, rfl, rfl, rfl, hZ.symm, hr1, hg1, Chg.refl _ _⟩
  clear hg1 hr1
  rintro f z m' rec ⟨b, done, d', a1, a2, hf, rfl, hdn, he, hr, hg, hch⟩ ih
  have hch0 : Chg (Ij i j) m m' := (ijS hS1).trans hch (fun b hb h => by
    rcases h with h | h
    · exact h
    · omega)
  by_cases h2 : b < 13
  · have d3 : (b : Int) < ((13 : Nat) : Int) := by omega
    simp -implicitDefEqProofs only [List.getD_cons_zero, List.getD_cons_succ, code_reader_row_l0, simpS, Nat.reduceAdd, d3, decide_true, if_true, load_at hr.get]
    refine Ok.bnd (cdelta m' d' _ hr.dec fun m2 h1 hc1 => ?_)
    have hr2 := hr.took h1 hc1
    have hg2 := (hc1.get m.next (Nat.lt_of_lt_of_le hnx1 hch.next) (fun e => hne j (.inr rfl) e.symm)).trans hg
    have hsub : 13 - b = 13 - (b + 1) + 1 := by omega
    rw [hsub, takeDs] at he
    rw [hsub] at hg2
    have i2 := aIdxS_at (size := 1) (i := m.next) (o := 0) (n := 13) (e := 1) (kd := .i64) h2
    have e2 : IntKind.i64.wrap ((b : Int) + 1) = ((b + 1 : Nat) : Int) := by rw [IntWalk.i64_in _ (by omega)]; omega
    have hset := set_fill (fun x => AV.int .i64 x) (.int .i64 0) done (gdelta d').1 (13 - (b + 1))
    rw [hdn] at hset
    have hbm : m2.base ≤ m.next := by rw [hc1.base, hch.base]; exact hb1
    have hst := fun (k : Nat → AV → M AV) => ok_store (k := k) (Q := Q) (o := b) (v := .int .i64 (gdelta d').1) hg2 hbm (Nat.zero_le _) (by simp; omega) (by simp)
    simp -implicitDefEqProofs only [simpS, Nat.reduceAdd, i2, Nat.mul_one, hst, hset, e2]
    have hcs := Chg.set m2 m.next (.cells T_int 0 ((done ++ [(gdelta d').1]).map (fun x => AV.int .i64 x) ++ List.replicate (13 - (b + 1)) (.int .i64 0)))
    exact ih (f - 1) _ _ (by omega) ⟨b + 1, done ++ [(gdelta d').1], _, _, _, by omega, rfl, by simp [hdn], by rw [he]; simp, hr2.chg hcs (hne i (.inl rfl)) (hne j (.inr rfl)), Mem.get_set _ _ _, (hch.trans (hc1.mono fun b _ h => (.inl (.inr h) : Ij i j b ∨ b = m.next)) (fun _ _ h => h)).trans (hcs.mono fun b _ h => (.inr h : Ij i j b ∨ b = m.next)) (fun _ _ h => h)⟩
  · obtain rfl : b = 13 := by omega
    have d3 : ¬ ((13 : Nat) : Int) < ((13 : Nat) : Int) := by decide
    rw [Nat.sub_self, takeDs, List.append_nil] at he
    have hdin : ∀ x ∈ done, -67 ≤ x ∧ x ≤ 67 := by
      rw [he] at hin
      exact hin
    have hdr : IntsR (fun b => b = m.next) m' (.slice m.next 0 13 1) done := by
      have := slR_own (K := fun b => b = m.next) (R := RInt .i64) (f := fun x => .int .i64 x) (m := m') (i := m.next) (ty := T_int) (fz := 0) (e := 1) (l := done) rfl (by rw [hg]; simp) (fun x hx => ⟨rfl, wf_i64 (by have := hdin x hx; omega)⟩)
      rw [hdn] at this
      exact this
    have hnm : m.next < m'.next := Nat.lt_of_lt_of_le hnx1 hch.next
    rw [he] at hq hq0
    have hp' := hp.keep (m' := m') (fun b hb => hch0.get b (hK b hb).1 (hK b hb).2)
    simp -implicitDefEqProofs only [List.getD_cons_zero, List.getD_cons_succ, code_reader_row_l0, simpS, Nat.reduceAdd, d3, decide_false, Bool.false_eq_true, if_false]
    refine Ok.bnd (erow_ok hp' (fun b hb => Nat.lt_of_lt_of_le (hK b hb).1 hch0.next) hdr (fun b hb => by omega) hr.bn hlp (fun m2 u r hro hS hu => ?_) (fun m2 hro hS => ?_))
    · have hr2 := hr.same hS
      have hst := fun (b : Bool) (k : Nat → AV → M AV) => ok_store (k := k) (Q := Q) (o := 2) (v := .bool b) hr2.get hr2.base (Nat.zero_le _) (by simp) (by simp)
      simp -implicitDefEqProofs only [aExt, simpS, Nat.reduceAdd, load_at hr2.get, Bool.false_eq_true, if_false, hst, Bool.not_true, code_reader_row_j0]
      have hcs := Chg.set m2 i (.cells T_code_reader 0 [.ptr j 0, .int .i64 q, .bool false])
      refine hq _ u r hro (hr2.turn false) (ijT hch0 (ijT (ijS hS) (ijI hcs))) (hu.keep (fun b hb => hcs.get b hb.2 (by have := hr.next; omega)) |>.mono fun b hb => ⟨?_, Nat.lt_of_lt_of_le hb.2 hcs.next⟩)
      have := hch0.next
      omega
    · have hr2 := hr.same hS
      have hst := fun (b : Bool) (k : Nat → AV → M AV) => ok_store (k := k) (Q := Q) (o := 2) (v := .bool b) hr2.get hr2.base (Nat.zero_le _) (by simp) (by simp)
      simp -implicitDefEqProofs only [aExt, simpS, Nat.reduceAdd, load_at hr2.get, Bool.false_eq_true, if_false, hst, Bool.not_false, code_reader_row_j0]
      have hcs := Chg.set m2 i (.cells T_code_reader 0 [.ptr j 0, .int .i64 q, .bool true])
      exact hq0 _ hro (hr2.turn true) (ijT hch0 (ijT (ijS hS) (ijI hcs)))
end SplA

/- The reader of frames: channels. -/
namespace SplA
open Go.Proofs.YtooogfnmhfocjaaDoor.Spl Go Go.Proofs
set_option maxRecDepth 100000
set_option linter.unusedVariables false
set_option linter.unusedSimpArgs false

/-- make of a slice of several cells. -/
theorem ok_mkSliceN {β : Type} {ty es bytes n : Nat} {zs : List AV} {k : Nat → AV → M β} {m : Mem} {Q : β → Mem → Prop} (h : bytes * n ≤ 35184372088832) (hz : zs.length = es) :
    Ok (fun q => bnd (mkSlice ty es bytes zs (.int .i64 n) (.int .i64 n)) (k q)) m Q ↔ Ok (fun q => k q (.slice m.next 0 n es)) (m.alloc (.cells ty 0 (List.replicate n zs).flatten)) Q := by
  have hb : (bytes : Int) * (n : Int) ≤ 2 ^ 45 := by rw [← Int.natCast_mul]; omega
  have e : mkSlice ty es bytes zs (.int .i64 n) (.int .i64 n) = allocS ty es n (List.replicate n zs).flatten := by
    simp -implicitDefEqProofs only [mkSlice, Int.toNat_natCast]
    rw [if_pos ⟨by omega, Int.le_refl _, hb, hz⟩]
  rw [e]
  exact ok_allocS
theorem rep3 (a b c : AV) : ∀ (n k : Nat), k < n → (List.replicate n [a, b, c]).flatten[k * 3]? = some a ∧ (List.replicate n [a, b, c]).flatten[k * 3 + 1]? = some b ∧ (List.replicate n [a, b, c]).flatten[k * 3 + 2]? = some c
  | 0, k, h => by omega
  | n + 1, 0, h => by simp [List.replicate_succ]
  | n + 1, k + 1, h => by
    have := rep3 a b c n k (by omega)
    rw [List.replicate_succ, List.flatten_cons]
    rw [List.getElem?_append_right (by simp; omega), List.getElem?_append_right (by simp; omega), List.getElem?_append_right (by simp; omega)]
    simp -implicitDefEqProofs only [List.length_cons, List.length_nil]
    rw [show (k + 1) * 3 - (0 + 1 + 1 + 1) = k * 3 by omega, show (k + 1) * 3 + 1 - (0 + 1 + 1 + 1) = k * 3 + 1 by omega, show (k + 1) * 3 + 2 - (0 + 1 + 1 + 1) = k * 3 + 2 by omega]
    exact this
theorem rep3_length (a b c : AV) (n : Nat) : (List.replicate n [a, b, c]).flatten.length = n * 3 := by
  induction n with
  | zero => rfl
  | succ n ih => rw [List.replicate_succ, List.flatten_cons, List.length_append, ih]; simp; omega

/-- Bands, as cells, as far as they are: coarse, fine. -/
def CellF (cs : List AV) (n : Nat) (l : List (Int × Int)) : Prop := cs.length = n * 3 ∧ ∀ k, k < n → cs[k * 3]? = some (.int .i64 (l.getD k (0, 0)).1) ∧ cs[k * 3 + 1]? = some (.int .i64 (l.getD k (0, 0)).2) ∧ cs[k * 3 + 2]? = some .nilslice
theorem CellF.new (n : Nat) : CellF (List.replicate n [.int .i64 0, .int .i64 0, .nilslice]).flatten n [] :=
  ⟨rep3_length _ _ _ n, fun k hk => by have := rep3 (.int .i64 0) (.int .i64 0) .nilslice n k hk; simpa using this⟩
theorem getD_snoc {l : List (Int × Int)} {x : Int × Int} (k : Nat) : (l ++ [x]).getD k (0, 0) = if k = l.length then x else l.getD k (0, 0) := by
  simp -implicitDefEqProofs only [List.getD_eq_getElem?_getD]
  rcases Nat.lt_trichotomy k l.length with h | h | h
  · rw [if_neg (by omega), List.getElem?_append_left h]
  · subst h
    rw [if_pos rfl, List.getElem?_append_right (Nat.le_refl _)]
    simp
  · rw [if_neg (by omega), List.getElem?_eq_none (by simp; omega), List.getElem?_eq_none (by omega)]
theorem CellF.coarse {cs : List AV} {n : Nat} {l : List (Int × Int)} {c : Int} (h : CellF cs n l) (hl : l.length < n) : CellF (cs.set (l.length * 3) (.int .i64 c)) n (l ++ [(c, 0)]) := by
  refine ⟨by rw [List.length_set]; exact h.1, fun k hk => ?_⟩
  obtain ⟨h1, h2, h3⟩ := h.2 k hk
  have hlen := h.1
  rw [getD_snoc]
  by_cases e : k = l.length
  · subst e
    rw [if_pos rfl, List.getElem?_set_self (by omega), List.getElem?_set_ne (by omega), List.getElem?_set_ne (by omega)]
    refine ⟨rfl, ?_, h3⟩
    rw [h2, List.getD_eq_getElem?_getD, List.getElem?_eq_none (Nat.le_refl _)]
    rfl
  · rw [if_neg e, List.getElem?_set_ne (by omega), List.getElem?_set_ne (by omega), List.getElem?_set_ne (by omega)]
    exact ⟨h1, h2, h3⟩
theorem CellF.fine {cs : List AV} {n : Nat} {l : List (Int × Int)} {c f : Int} (h : CellF cs n (l ++ [(c, 0)])) (hl : l.length < n) : CellF (cs.set (l.length * 3 + 1) (.int .i64 f)) n (l ++ [(c, f)]) := by
  refine ⟨by rw [List.length_set]; exact h.1, fun k hk => ?_⟩
  obtain ⟨h1, h2, h3⟩ := h.2 k hk
  have hlen := h.1
  rw [getD_snoc] at h1 h2 ⊢
  by_cases e : k = l.length
  · subst e
    rw [if_pos rfl] at h1 h2 ⊢
    rw [List.getElem?_set_ne (by omega), List.getElem?_set_self (by omega), List.getElem?_set_ne (by omega)]
    exact ⟨h1, rfl, h3⟩
  · rw [if_neg e] at h1 h2 ⊢
    rw [List.getElem?_set_ne (by omega), List.getElem?_set_ne (by omega), List.getElem?_set_ne (by omega)]
    exact ⟨h1, h2, h3⟩
/-- .. and pulses. -/
def CellP (K : Nat → Prop) (m : Mem) (cs : List AV) (cf : List (Int × Int)) (ps : List (List Int)) : Prop :=
  cs.length = cf.length * 3 ∧ ∀ k x, cf[k]? = some x → cs[k * 3]? = some (.int .i64 x.1) ∧ cs[k * 3 + 1]? = some (.int .i64 x.2) ∧ ∃ u, cs[k * 3 + 2]? = some u ∧ ∀ y, ps[k]? = some y → IntsR K m u y
theorem CellF.pulse {cs : List AV} {cf : List (Int × Int)} (h : CellF cs cf.length cf) (K : Nat → Prop) (m : Mem) : CellP K m cs cf [] := by
  refine ⟨h.1, fun k x hx => ?_⟩
  have hk := (List.getElem?_eq_some_iff.1 hx).1
  obtain ⟨h1, h2, h3⟩ := h.2 k hk
  rw [List.getD_eq_getElem?_getD, hx] at h1 h2
  exact ⟨h1, h2, _, h3, fun y hy => by simp at hy⟩
theorem CellP.keep {K L : Nat → Prop} {m m' : Mem} {cs : List AV} {cf : List (Int × Int)} {ps : List (List Int)} (h : CellP K m cs cf ps) (hk : ∀ b, K b → m'.get b = m.get b) (hL : ∀ b, K b → L b) : CellP L m' cs cf ps :=
  ⟨h.1, fun k x hx => by
    obtain ⟨h1, h2, u, h3, h4⟩ := h.2 k x hx
    exact ⟨h1, h2, u, h3, fun y hy => ((h4 y hy).keep hk).mono hL⟩⟩
theorem CellP.put {K : Nat → Prop} {m : Mem} {cs : List AV} {cf : List (Int × Int)} {ps : List (List Int)} {u : AV} {y : List Int} (h : CellP K m cs cf ps) (hu : IntsR K m u y) (hl : ps.length < cf.length) : CellP K m (cs.set (ps.length * 3 + 2) u) cf (ps ++ [y]) := by
  refine ⟨by rw [List.length_set]; exact h.1, fun k x hx => ?_⟩
  obtain ⟨h1, h2, w, h3, h4⟩ := h.2 k x hx
  have hlen := h.1
  by_cases e : k = ps.length
  · subst e
    rw [List.getElem?_set_ne (by omega), List.getElem?_set_ne (by omega), List.getElem?_set_self (by omega)]
    refine ⟨h1, h2, u, rfl, fun y' hy => ?_⟩
    rw [List.getElem?_append_right (Nat.le_refl _)] at hy
    simp at hy
    rw [← hy]; exact hu
  · rw [List.getElem?_set_ne (by omega), List.getElem?_set_ne (by omega), List.getElem?_set_ne (by omega)]
    refine ⟨h1, h2, w, h3, fun y' hy => h4 y' ?_⟩
    rcases Nat.lt_or_ge k ps.length with hk | hk
    · rwa [List.getElem?_append_left hk] at hy
    · rw [List.getElem?_append_right hk] at hy
      have := (List.getElem?_eq_some_iff.1 hy).1
      simp at this
      omega
theorem CellP.bands {K : Nat → Prop} {m : Mem} {cs : List AV} {cf : List (Int × Int)} {ps : List (List Int)} {i ty fz e : Nat} (h : CellP K m cs cf ps) (hl : ps.length = cf.length) (hg : m.get i = .cells ty fz cs) (hi : K i) (hw : ∀ x ∈ cf, (0 ≤ x.1 ∧ x.1 ≤ 23) ∧ 0 ≤ x.2 ∧ x.2 ≤ 3) : BandsR K m (.slice i 0 cf.length e) (bandsOf cf ps) := by
  have hlen : (bandsOf cf ps).length = cf.length := by simp [bandsOf, hl]
  have hs : (AV.slice i 0 cf.length e) = .slice i 0 (bandsOf cf ps).length e := by rw [hlen]
  refine .inr ⟨i, 0, e, hs, hi, fun k b hb => ?_⟩
  simp -implicitDefEqProofs only [bandsOf, List.getElem?_map] at hb
  obtain ⟨x, hx, rfl⟩ := Option.map_eq_some_iff.1 hb
  obtain ⟨hx1, hx2⟩ := List.getElem?_zip_eq_some.1 hx
  obtain ⟨h1, h2, u, h3, h4⟩ := h.2 k x.1 hx1
  have hk := (List.getElem?_eq_some_iff.1 hx1).1
  have hc := h.1
  have hwx := hw x.1 (List.mem_of_getElem? hx1)
  refine ⟨[.int .i64 x.1.1, .int .i64 x.1.2, u], rfl, ⟨u, rfl, wf_i64 (by dsimp only; omega), wf_i64 (by dsimp only; omega), h4 _ hx2⟩, ?_, fun j a hj => ?_⟩
  · rw [load_at' hg, Nat.zero_add, if_pos (by omega)]
    obtain ⟨p1, q1⟩ := List.getElem?_eq_some_iff.1 h1
    obtain ⟨p2, q2⟩ := List.getElem?_eq_some_iff.1 h2
    obtain ⟨p3, q3⟩ := List.getElem?_eq_some_iff.1 h3
    rw [List.drop_eq_getElem_cons p1, List.drop_eq_getElem_cons p2, List.drop_eq_getElem_cons p3, q1, q2, q3]
    simp
  · rw [load_at hg, Nat.zero_add]
    match j, hj with
    | 0, hj => cases hj; exact h1
    | 1, hj => cases hj; exact h2
    | 2, hj => cases hj; exact h3

theorem takeF_in : ∀ {l : List Int} {d : Dec}, (∀ x ∈ l, 0 ≤ x ∧ x ≤ 23) → ∀ x ∈ (takeF l d).1, (0 ≤ x.1 ∧ x.1 ≤ 23) ∧ 0 ≤ x.2 ∧ x.2 ≤ 3
  | [], _, _, x, hx => by simp [takeF] at hx
  | c :: l, d, h, x, hx => by
    unfold takeF at hx
    have hc := h c (by simp)
    have h' : ∀ x ∈ l, 0 ≤ x ∧ x ≤ 23 := fun x hx => h x (by simp [hx])
    have hg := gbits2_lt d
    split at hx
    · rcases List.mem_cons.1 hx with rfl | hx
      · dsimp only; omega
      · exact takeF_in h' x hx
    · rcases List.mem_cons.1 hx with rfl | hx
      · dsimp only; omega
      · exact takeF_in h' x hx
theorem takeP_length {q : Int} : ∀ {l : List Int} {b : Nat} {d : Dec} {x : List (List Int) × Dec}, takeP q b l d = some x → x.1.length = l.length
  | [], _, _, x, h => by cases h; rfl
  | c :: l, b, d, x, h => by
    unfold takeP at h
    split at h
    · split at h
      · obtain ⟨y, h1, rfl⟩ := Option.map_eq_some_iff.1 h
        simp [takeP_length h1]
      · cases h
    · obtain ⟨y, h1, rfl⟩ := Option.map_eq_some_iff.1 h
      simp [takeP_length h1]
end SplA

/- The reader of frames: a channel. -/
namespace SplA
open Go.Proofs.YtooogfnmhfocjaaDoor.Spl Go Go.Proofs
set_option maxRecDepth 100000
set_option linter.unusedVariables false
set_option linter.unusedSimpArgs false

theorem eqb_slice (i o n e : Nat) : AV.eqb (.slice i o n e) (.slice i o n e) = true := by simp [AV.eqb]
theorem takeP_step {q : Int} {b : Nat} {c : Int} {l : List Int} {d : Dec} {done : List (List Int)} {z : Option (List (List Int) × Dec)} (h : (takeP q b (c :: l) d).map (fun x => (done ++ x.1, x.2)) = z) :
    (0 < bandN q c (widthN b) → (gbelowV (countN (widthN b) (bandN q c (widthN b)) : Nat) d).1.2 = true → (takeP q (b + 1) l (gbelowV (countN (widthN b) (bandN q c (widthN b)) : Nat) d).2).map (fun x => (done ++ [(vecO (widthN b) (bandN q c (widthN b)) ((gbelowV (countN (widthN b) (bandN q c (widthN b)) : Nat) d).1.1 : Nat)).getD []] ++ x.1, x.2)) = z) ∧
    (0 < bandN q c (widthN b) → (gbelowV (countN (widthN b) (bandN q c (widthN b)) : Nat) d).1.2 = false → z = none) ∧
    (¬ 0 < bandN q c (widthN b) → (takeP q (b + 1) l d).map (fun x => (done ++ [(vecO (widthN b) (bandN q c (widthN b)) 0).getD []] ++ x.1, x.2)) = z) := by
  unfold takeP at h
  refine ⟨fun h1 h2 => ?_, fun h1 h2 => ?_, fun h1 => ?_⟩
  · rw [if_pos h1, if_pos h2, Option.map_map] at h
    rw [← h]
    congr 1
    funext x
    simp
  · rw [if_pos h1, h2] at h
    simpa using h.symm
  · rw [if_neg h1, Option.map_map] at h
    rw [← h]
    congr 1
    funext x
    simp

theorem reader_l1_ok {K : Nat → Prop} {r : List Int} {vr : AV} {i j i4 i5 o : Nat} {q : Int} {bad : Bool} {d : Dec} {m : Mem} {Q : AV → Mem → Prop} {cf : List (Int × Int)} {cs : List AV} {tot : Option (List (List Int) × Dec)}
    (hr : IntsR K m vr r) (hK : ∀ b, K b → b < m.next ∧ ¬ Ij i j b ∧ b ≠ o) (hl : r.length ≤ 13) (h : RdrAt m i j q bad d) (hcf : cf.length = r.length) (hC : CellF cs cf.length cf) (hg : m.get o = .cells T_api_Band 0 cs) (hg5 : m.get i5 = .cells T_api_Chan 0 [.slice o 0 r.length 3]) (hg4 : ∃ u0, m.get i4 = .cells T_api_Chan 0 [u0])
    (ho : m.base ≤ o ∧ o < m.next ∧ ¬ Ij i j o) (h4 : m.base ≤ i4 ∧ i4 < m.next ∧ ¬ Ij i j i4 ∧ i4 ≠ o) (h5 : i5 < m.next ∧ ¬ Ij i j i5 ∧ i5 ≠ o) (ht : takeP q 0 r d = tot) (hw : ∀ x ∈ cf, (0 ≤ x.1 ∧ x.1 ≤ 23) ∧ 0 ≤ x.2 ∧ x.2 ≤ 3)
    (hq : ∀ m' ps d', bad = false → tot = some (ps, d') → RdrAt m' i j q false d' → Chg (fun b => Ij i j b ∨ b = o ∨ b = i4) m m' → BandsR (fun b => b = o ∨ (m.next ≤ b ∧ b < m'.next)) m' (.slice o 0 r.length 3) (bandsOf cf ps) → Q (.agg [.slice o 0 r.length 3]) m')
    (hq0 : ∀ m' d', (bad = true ∨ tot = none) → RdrAt m' i j q true d' → Chg (fun b => Ij i j b ∨ b = o ∨ b = i4) m m' → Q (.agg [.slice o 0 r.length 3]) m') :
    Ok (fun n => loopN (fun r l => code_reader_channel_l1 (fcall Tryd.prog ext1 n) n r (l.getD 0 .undef) (l.getD 1 .undef) (l.getD 2 .undef) (l.getD 3 .undef) (l.getD 4 .undef) (l.getD 5 .undef)) n [.ptr i 0, .ptr i4 0, .ptr i5 0, vr, .int .i64 r.length, .int .i64 0]) m Q := by
  have hne : ∀ b, m.next ≤ b → ¬ (Ij i j b ∨ b = o) := by
    intro b hb hF
    have h1 := h.next
    have h2 := h.dec.next
    rcases hF with (rfl | rfl) | rfl <;> omega
  refine Ok.loop (fun f z m' => ∃ (b : Nat) (d' : Dec) (bad' : Bool) (cs : List AV), f + b = r.length ∧ z = [.ptr i 0, .ptr i4 0, .ptr i5 0, vr, .int .i64 r.length, .int .i64 b] ∧ RdrAt m' i j q bad' d' ∧ m'.get o = .cells T_api_Band 0 cs ∧ cs.length = r.length * 3 ∧ Chg (fun b => Ij i j b ∨ b = o) m m' ∧ ((bad' = true ∧ (bad = true ∨ tot = none)) ∨ (bad' = false ∧ bad = false ∧ ∃ ps, ps.length = b ∧ CellP (fun b => m.next ≤ b ∧ b < m'.next) m' cs cf ps ∧ (takeP q b (r.drop b) d').map (fun x => (ps ++ x.1, x.2)) = tot))) ?_ (k := r.length) ⟨0, d, bad, cs, rfl, rfl, h, hg, by rw [hC.1, hcf], Chg.refl _ _, ?_⟩
  rotate_left
  · cases bad with
    | true => exact .inl ⟨rfl, .inl rfl⟩
    | false => exact .inr ⟨rfl, rfl, [], rfl, hC.pulse _ _, by rw [List.drop_zero, ht]; simp⟩
  clear hg hC
  rintro f z m' rec ⟨b, d', bad', cs, hf, rfl, hR, hg, hcl, hch, hdis⟩ ih
  have hr' := hr.keep (m' := m') (fun b hb => hch.get b (hK b hb).1 (fun hF => by rcases hF with hF | hF; exact (hK b hb).2.1 hF; exact (hK b hb).2.2 hF))
  have hg5' := (hch.get i5 h5.1 (fun hF => by rcases hF with hF | hF; exact h5.2.1 hF; exact h5.2.2 hF)).trans hg5
  have hbm : m'.base ≤ o := by rw [hch.base]; exact ho.1
  by_cases h1 : b < r.length
  · have d1 : (b : Int) < (r.length : Int) := by omega
    obtain ⟨c, hc, hdrop⟩ := drop_cons' h1
    obtain ⟨b1, o1, ce, hix, -, -, ⟨rfl, -⟩, -, hld⟩ := hr'.at hc
    have l1 : load? none (.ptr b1 o1) m' = some (.int .i64 c) := hld 0 _ rfl
    have e4 : IntKind.i64.wrap ((b : Int) + 1) = ((b + 1 : Nat) : Int) := by rw [IntWalk.i64_in _ (by omega)]; omega
    have i2 := aIdxS_at (size := 3) (i := o) (o := 0) (n := r.length) (e := 3) (kd := .i64) h1
    simp -implicitDefEqProofs only [List.getD_cons_zero, List.getD_cons_succ, code_reader_channel_l1, simpS, Nat.reduceAdd, d1, decide_true, if_true, hix, l1]
    refine Ok.bnd (width_ok (by omega) hR.bn fun m2 hS2 => ?_)
    have hR2 := hR.same hS2
    simp -implicitDefEqProofs only [simpS, Nat.reduceAdd, load_at hR2.get]
    refine Ok.bnd (band_ok ?_)
    simp -implicitDefEqProofs only [simpS, Nat.reduceAdd]
    -- what is done with the number
    have hlast : ∀ (m3 : Mem) (x : Int) (d2 : Dec) (bad2 : Bool), RdrAt m3 i j q bad2 d2 → Chg (Ij i j) m' m3 →
        ((bad2 = true ∧ (bad = true ∨ tot = none)) ∨ (bad2 = false ∧ bad = false ∧ ∃ ps, ps.length = b ∧ CellP (fun b => m.next ≤ b ∧ b < m'.next) m' cs cf ps ∧ (takeP q (b + 1) (r.drop (b + 1)) d2).map (fun y => (ps ++ [(vecO (widthN b) (bandN q c (widthN b)) x).getD []] ++ y.1, y.2)) = tot)) →
        Ok (fun n => code_reader_channel_j1 (fcall Tryd.prog ext1 n) n (rec n) (.ptr i 0) (.ptr i4 0) (.ptr i5 0) (.int .i64 b) (.int .i64 (widthN b)) (.int .i64 x) (.int .i64 (bandN q c (widthN b))) vr (.int .i64 r.length) (.int .i64 b)) m3 Q := by
      intro m3 x d2 bad2 hR3 hch3 hdis3
      have hg3 := (hch3.get o (Nat.lt_of_lt_of_le ho.2.1 hch.next) ho.2.2).trans hg
      have hg53 := (hch3.get i5 (Nat.lt_of_lt_of_le h5.1 hch.next) h5.2.1).trans hg5'
      simp -implicitDefEqProofs only [code_reader_channel_j1, simpS, Nat.reduceAdd, load_at hg53]
      refine Ok.bnd (vector_ok hR3.bn fun m4 u hS4 hu => ?_)
      have hR4 := hR3.same hS4
      have ho3 : o < m3.next := Nat.lt_of_lt_of_le (Nat.lt_of_lt_of_le ho.2.1 hch.next) hch3.next
      have h53 : i5 < m3.next := Nat.lt_of_lt_of_le (Nat.lt_of_lt_of_le h5.1 hch.next) hch3.next
      have hg4' := (hS4.get ho3).trans hg3
      have hg54 := (hS4.get h53).trans hg53
      have s1 : ∀ k : M AV, same none (.ptr i5 0) (.slice o 0 r.length 3) m4 k = k := fun k => same_load (by rw [load_at hg54]; rfl) (eqb_slice _ _ _ _) k
      have hbm4 : m4.base ≤ o := by rw [hS4.base, hch3.base]; exact hbm
      have hst := fun (k : Nat → AV → M AV) => ok_store (k := k) (Q := Q) (o := b * 3 + 2) (v := u) hg4' hbm4 (Nat.zero_le _) (by omega) (SlR.one hu)
      simp -implicitDefEqProofs only [vecV, aExt, simpS, Nat.reduceAdd, s1, i2, hst, e4]
      have hcs := Chg.set m4 o (.cells T_api_Band 0 (cs.set (b * 3 + 2) u))
      have hF1 : Chg (fun b => Ij i j b ∨ b = o) m' (m4.set o (.cells T_api_Band 0 (cs.set (b * 3 + 2) u))) := (hch3.mono fun _ _ h => (.inl h : Ij i j _ ∨ _ = o)).trans ((hS4.mono fun _ _ h => (h.elim : Ij i j _ ∨ _ = o)).trans (hcs.mono fun _ _ h => (.inr h : Ij i j _ ∨ _ = o)) (fun _ _ h => h)) (fun _ _ h => h)
      refine ih (f - 1) _ _ (by omega) ⟨b + 1, d2, bad2, cs.set (b * 3 + 2) u, by omega, rfl, hR4.chg hcs (fun e => ho.2.2 (.inl e.symm)) (fun e => ho.2.2 (.inr e.symm)), Mem.get_set _ _ _, by rw [List.length_set]; exact hcl, hch.trans hF1 (fun _ _ h => h), ?_⟩
      rcases hdis3 with hd | ⟨hd1, hd2, ps, hp1, hp2, hp3⟩
      · exact .inl hd
      · refine .inr ⟨hd1, hd2, ps ++ [(vecO (widthN b) (bandN q c (widthN b)) x).getD []], by simp [hp1], ?_, hp3⟩
        have hn1 := hch.next
        have hn3 := hch3.next
        have hn4 := hS4.next
        have hnn : (m4.set o (.cells T_api_Band 0 (cs.set (b * 3 + 2) u))).next = m4.next := rfl
        have k1 : CellP (fun b => m.next ≤ b ∧ b < m4.next) (m4.set o (.cells T_api_Band 0 (cs.set (b * 3 + 2) u))) cs cf ps := hp2.keep (fun b hb => hF1.get b hb.2 (hne b hb.1)) (fun b hb => ⟨hb.1, by omega⟩)
        have k2 : IntsR (fun b => m.next ≤ b ∧ b < m4.next) (m4.set o (.cells T_api_Band 0 (cs.set (b * 3 + 2) u))) u ((vecO (widthN b) (bandN q c (widthN b)) x).getD []) := (IntsR.keep hu (fun b hb => hcs.get b hb.2 (by omega))).mono fun b hb => ⟨by omega, hb.2⟩
        have := k1.put k2 (by omega)
        rw [hp1] at this
        exact this
    have hchS : Chg (Ij i j) m' m2 := ijS hS2
    by_cases h2 : 0 < bandN q c (widthN b)
    · have d2 : (0 : Int) < (bandN q c (widthN b) : Int) := by omega
      simp -implicitDefEqProofs only [d2, decide_true, if_true]
      refine Ok.bnd (count_ok hR2.bn fun m3 hS3 => ?_)
      refine Ok.bnd (rbelow_ok (hR2.same hS3) fun m4 hR4 hch4 => ?_)
      have hch' : Chg (Ij i j) m' m4 := ijT hchS (ijT (ijS hS3) hch4)
      refine hlast m4 _ _ _ hR4 hch' ?_
      rcases hdis with ⟨hd1, hd2⟩ | ⟨hd1, hd2, ps, hp1, hp2, hp3⟩
      · exact .inl ⟨by rw [hd1]; rfl, hd2⟩
      · rw [hdrop] at hp3
        obtain ⟨t1, t2, -⟩ := takeP_step hp3
        cases hok : (gbelowV (countN (widthN b) (bandN q c (widthN b)) : Nat) d').1.2 with
        | true => exact .inr ⟨by rw [hd1]; rfl, hd2, ps, hp1, hp2, t1 h2 hok⟩
        | false => exact .inl ⟨by rw [hd1]; rfl, .inr (t2 h2 hok)⟩
    · have d2 : ¬ (0 : Int) < (bandN q c (widthN b) : Int) := by omega
      simp -implicitDefEqProofs only [d2, decide_false, Bool.false_eq_true, if_false]
      refine hlast m2 0 _ _ hR2 hchS ?_
      rcases hdis with hd | ⟨hd1, hd2, ps, hp1, hp2, hp3⟩
      · exact .inl hd
      · rw [hdrop] at hp3
        exact .inr ⟨hd1, hd2, ps, hp1, hp2, (takeP_step hp3).2.2 h2⟩
  · obtain rfl : b = r.length := by omega
    have d1 : ¬ (r.length : Int) < (r.length : Int) := by omega
    obtain ⟨u0, hg4⟩ := hg4
    have hg4' := (hch.get i4 h4.2.1 (fun hF => by rcases hF with hF | hF; exact h4.2.2.1 hF; exact h4.2.2.2 hF)).trans hg4
    have l5 : load? (some 1) (.ptr i5 0) m' = some (.agg [.slice o 0 r.length 3]) := by rw [load_at' hg5']; rfl
    have hbm4 : m'.base ≤ i4 := by rw [hch.base]; exact h4.1
    have hst := fun (k : Nat → AV → M AV) => ok_storeAll (i := i4) (k := k) (Q := Q) (vs := [.slice o 0 r.length 3]) (n := 1) hg4' hbm4 rfl rfl (by simp [AV.one])
    have l4 : load? (some 1) (.ptr i4 0) (m'.set i4 (.cells T_api_Chan 0 [.slice o 0 r.length 3])) = some (.agg [.slice o 0 r.length 3]) := by rw [load_at' (Mem.get_set _ _ _)]; rfl
    have hcs := Chg.set m' i4 (.cells T_api_Chan 0 [.slice o 0 r.length 3])
    simp -implicitDefEqProofs only [List.getD_cons_zero, List.getD_cons_succ, code_reader_channel_l1, simpS, Nat.reduceAdd, d1, decide_false, Bool.false_eq_true, if_false, l5, hst, l4]
    have hR4 : ∀ bb dd, RdrAt m' i j q bb dd → RdrAt (m'.set i4 (.cells T_api_Chan 0 [.slice o 0 r.length 3])) i j q bb dd := fun bb dd hR => hR.chg hcs (fun e => h4.2.2.1 (.inl e.symm)) (fun e => h4.2.2.1 (.inr e.symm))
    have hF : Chg (fun b => Ij i j b ∨ b = o ∨ b = i4) m (m'.set i4 (.cells T_api_Chan 0 [.slice o 0 r.length 3])) := (hch.mono fun _ _ h => by rcases h with h | h; exact .inl h; exact .inr (.inl h)).trans (hcs.mono fun _ _ h => (.inr (.inr h) : Ij i j _ ∨ _ = o ∨ _ = i4)) (fun _ _ h => h)
    rcases hdis with ⟨hd1, hd2⟩ | ⟨hd1, hd2, ps, hp1, hp2, hp3⟩
    · subst hd1
      exact hq0 _ d' hd2 (hR4 _ _ hR) hF
    · subst hd1
      rw [List.drop_length, takeP, Option.map_some, List.append_nil] at hp3
      have hnn : (m'.set i4 (.cells T_api_Chan 0 [.slice o 0 r.length 3])).next = m'.next := rfl
      refine hq _ ps d' hd2 hp3.symm (hR4 _ _ hR) hF ?_
      have := (hp2.keep (L := fun b => b = o ∨ (m.next ≤ b ∧ b < m'.next)) (fun b hb => hcs.get b hb.2 (by have := h4.2.1; omega)) (fun b hb => .inr hb)).bands (e := 3) (by omega) ((hcs.get o (Nat.lt_of_lt_of_le ho.2.1 hch.next) (fun e => h4.2.2.2 e.symm)).trans hg) (.inl rfl) hw
      rw [hcf] at this
      exact this
end SplA

/- The reader of frames: a channel, whole. -/
namespace SplA
open Go.Proofs.YtooogfnmhfocjaaDoor.Spl Go Go.Proofs
set_option maxRecDepth 100000
set_option linter.unusedVariables false
set_option linter.unusedSimpArgs false

theorem bandsR_mono {K L : Nat → Prop} {m : Mem} {v : AV} {l : List BandD} (h : BandsR K m v l) (hK : ∀ b, K b → L b) : BandsR L m v l := SlR.mono h hK (fun _ _ ⟨v, k1, k2, k3, k4⟩ => ⟨v, k1, k2, k3, k4.mono hK⟩)

theorem reader_channel_ok {K : Nat → Prop} {r : List Int} {vr : AV} {i j : Nat} {q : Int} {bad : Bool} {d : Dec} {m : Mem} {Q : AV → Mem → Prop}
    (hr : IntsR K m vr r) (hK : ∀ b, K b → b < m.next ∧ ¬ Ij i j b) (hl : r.length ≤ 13) (hin : ∀ x ∈ r, 0 ≤ x ∧ x ≤ 23) (h : RdrAt m i j q bad d)
    (hq : ∀ m' u ps d', bad = false → takeP q 0 r (takeF r d).2 = some (ps, d') → RdrAt m' i j q false d' → Chg (Ij i j) m m' → BandsR (fun b => m.next ≤ b ∧ b < m'.next) m' u (bandsOf (takeF r d).1 ps) → Q (.agg [u]) m')
    (hq0 : ∀ m' u d', u.one = true → (bad = true ∨ takeP q 0 r (takeF r d).2 = none) → RdrAt m' i j q true d' → Chg (Ij i j) m m' → Q (.agg [u]) m') :
    Ok (R fn_code_reader_channel [.ptr i 0, vr]) m Q := by
  refine Ok.call (fun n => code_reader_channel_eq rfl n _ _) ?_
  have hcl : (List.replicate r.length [AV.int .i64 0, .int .i64 0, .nilslice]).flatten.length = r.length * 3 := rep3_length _ _ _ _
  have hC0 := CellF.new r.length
  simp -implicitDefEqProofs only [code_reader_channel, ok_alloc, hr.len, lp_some']
  rw [ok_mkSliceN (es := 3) (by omega) rfl]
  generalize (List.replicate r.length [AV.int .i64 0, .int .i64 0, .nilslice]).flatten = cs0 at *
  have hS1 := Same.alloc m (.cells T_api_Chan 0 [.nilslice])
  have hg4 := Mem.get_alloc m (.cells T_api_Chan 0 [.nilslice])
  have hnx1 : (m.alloc (.cells T_api_Chan 0 [.nilslice])).next = m.next + 1 := rfl
  generalize m.alloc (.cells T_api_Chan 0 [.nilslice]) = m1 at *
  have hS2 := Same.alloc m1 (.cells T_api_Band 0 cs0)
  have hgo := Mem.get_alloc m1 (.cells T_api_Band 0 cs0)
  have hnx2 : (m1.alloc (.cells T_api_Band 0 cs0)).next = m1.next + 1 := rfl
  have hbn2 := hS2.bn (hS1.bn h.bn)
  generalize m1.alloc (.cells T_api_Band 0 cs0) = m2 at *
  have hf : (aFill (fun i => [(0, 1)][i]?) [.nilslice] [(0, .slice m1.next 0 r.length 3)]).map AV.agg = some (.agg [.slice m1.next 0 r.length 3]) := rfl
  have hst := fun (k : Nat → AV → M AV) => ok_storeAll (i := m2.next) (k := k) (Q := Q) (vs := [.slice m1.next 0 r.length 3]) (n := 1) (Mem.get_alloc m2 (.cells T_api_Chan 0 [.nilslice])) hbn2 rfl rfl (by simp [AV.one])
  simp -implicitDefEqProofs only [hf, lp_some', ok_alloc, hst, Mem.alloc_set]
  have hS3 := Same.alloc m2 (.cells T_api_Chan 0 [.slice m1.next 0 r.length 3])
  have hg5 := Mem.get_alloc m2 (.cells T_api_Chan 0 [.slice m1.next 0 r.length 3])
  have hnx3 : (m2.alloc (.cells T_api_Chan 0 [.slice m1.next 0 r.length 3])).next = m2.next + 1 := rfl
  generalize m2.alloc (.cells T_api_Chan 0 [.slice m1.next 0 r.length 3]) = m3 at *
  have hS03 := (hS1.trans hS2).trans hS3
  have h3 := h.same hS03
  have hgo3 := (hS3.get (by omega)).trans hgo
  have hg43 := (hS3.get (by omega)).trans ((hS2.get (by omega)).trans hg4)
  have hb3 := hS03.base
  have hbm := h.bn
  have hIj : ∀ b, Ij i j b → b < m.next := by
    intro b hb
    have h1 := h.next
    have h2 := h.dec.next
    rcases hb with rfl | rfl <;> omega
  generalize hZ : takeF r d = Z at *
  have hZin : ∀ x ∈ Z.1, (0 ≤ x.1 ∧ x.1 ≤ 23) ∧ 0 ≤ x.2 ∧ x.2 ≤ 3 := by rw [← hZ]; exact takeF_in hin
  refine Ok.loop (fun f z m' => ∃ (b : Nat) (cf : List (Int × Int)) (d' : Dec) (cs : List AV), f + b = r.length ∧ z = [.ptr i 0, vr, .ptr m.next 0, .ptr m2.next 0, vr, .int .i64 r.length, .int .i64 b] ∧ cf.length = b ∧ Z = (cf ++ (takeF (r.drop b) d').1, (takeF (r.drop b) d').2) ∧ RdrAt m' i j q bad d' ∧ m'.get m1.next = .cells T_api_Band 0 cs ∧ CellF cs r.length cf ∧ Chg (fun b => Ij i j b ∨ b = m1.next) m3 m') ?_ (k := r.length) ⟨0, [], d, cs0, rfl, rfl, rfl, by rw [← hZ]; rfl, h3, hgo3, hC0, Chg.refl _ _⟩
  clear hC0 hgo3 hgo h3 hst hf
  rintro f z m' rec ⟨b, cf, d', cs, hfb, rfl, hcf, he, hR, hg, hC, hch⟩ ih
  have hr' := hr.keep (m' := m') (fun b hb => (hch.get b (Nat.lt_of_lt_of_le (hK b hb).1 hS03.next) (fun hF => by rcases hF with hF | hF; exact (hK b hb).2 hF; have := (hK b hb).1; omega)).trans (hS03.get (hK b hb).1))
  have hg5' := (hch.get m2.next (by omega) (fun hF => by rcases hF with hF | hF; have := hIj _ hF; omega; omega)).trans hg5
  have hbm' : m'.base ≤ m1.next := by rw [hch.base, hb3]; omega
  have hn' := hch.next
  by_cases h1 : b < r.length
  · have d1 : (b : Int) < (r.length : Int) := by omega
    obtain ⟨c, hc, hdrop⟩ := drop_cons' h1
    obtain ⟨b1, o1, ce, hix, -, -, ⟨rfl, -⟩, -, hld⟩ := hr'.at hc
    have l1 : load? none (.ptr b1 o1) m' = some (.int .i64 c) := hld 0 _ rfl
    have e4 : IntKind.i64.wrap ((b : Int) + 1) = ((b + 1 : Nat) : Int) := by rw [IntWalk.i64_in _ (by omega)]; omega
    have i2 := aIdxS_at (size := 3) (i := m1.next) (o := 0) (n := r.length) (e := 3) (kd := .i64) h1
    have hlen := hC.1
    have hst := fun (k : Nat → AV → M AV) => ok_store (k := k) (Q := Q) (o := b * 3) (v := .int .i64 c) hg hbm' (Nat.zero_le _) (by omega) (by simp)
    simp -implicitDefEqProofs only [List.getD_cons_zero, List.getD_cons_succ, code_reader_channel_l0, simpS, Nat.reduceAdd, d1, decide_true, if_true, hix, l1, load_at hg5', i2, hst]
    have hC1 := hC.coarse (c := c) (by omega)
    rw [hcf] at hC1
    have hcs := Chg.set m' m1.next (.cells T_api_Band 0 (cs.set (b * 3) (.int .i64 c)))
    have hg1 := Mem.get_set m' m1.next (.cells T_api_Band 0 (cs.set (b * 3) (.int .i64 c)))
    have hR1 := hR.chg hcs (fun e => by have := h.next; omega) (fun e => by have := h.dec.next; omega)
    have hg51 := (hcs.get m2.next (by omega) (by omega)).trans hg5'
    have hch1 := hch.trans (hcs.mono fun b _ h => (.inr h : Ij i j b ∨ b = m1.next)) (fun _ _ h => h)
    have hb1 : (m'.set m1.next (.cells T_api_Band 0 (cs.set (b * 3) (.int .i64 c)))).base ≤ m1.next := hbm'
    generalize m'.set m1.next (.cells T_api_Band 0 (cs.set (b * 3) (.int .i64 c))) = m4 at *
    rw [hdrop, takeF] at he
    by_cases h2 : 0 < c
    · rw [if_pos h2] at he
      simp -implicitDefEqProofs only [h2, decide_true, if_true, simpS, Nat.reduceAdd, load_at hg51, load_at hR1.get]
      refine Ok.bnd (cbits (n := 2) m4 d' _ hR1.dec fun m5 k1 hc5 => ?_)
      have hR5 : RdrAt m5 i j q bad (gbitsV 2 d').2 := hR1.took k1 hc5
      have hn4 := hch1.next
      have hg5o := (hc5.get m1.next (by omega) (fun e => by have := h.dec.next; omega)).trans hg1
      have hg55 := (hc5.get m2.next (by omega) (fun e => by have := h.dec.next; omega)).trans hg51
      have s1 : ∀ k : M AV, same none (.ptr m2.next 0) (.slice m1.next 0 r.length 3) m5 k = k := fun k => same_load (by rw [load_at hg55]; rfl) (eqb_slice _ _ _ _) k
      have hb5 : m5.base ≤ m1.next := by rw [hc5.base]; exact hb1
      have hst5 := fun (k : Nat → AV → M AV) => ok_store (k := k) (Q := Q) (o := b * 3 + 1) (v := .int .i64 ((gbitsV 2 d').1 : Nat)) hg5o hb5 (Nat.zero_le _) (by rw [List.length_set]; omega) (by simp)
      simp -implicitDefEqProofs only [simpS, Nat.reduceAdd, s1, i2, hst5, code_reader_channel_j0, e4]
      have hC2 := hC1.fine (f := ((gbitsV 2 d').1 : Nat)) (by omega)
      rw [hcf] at hC2
      have hcs5 := Chg.set m5 m1.next (.cells T_api_Band 0 ((cs.set (b * 3) (.int .i64 c)).set (b * 3 + 1) (.int .i64 ((gbitsV 2 d').1 : Nat))))
      exact ih (f - 1) _ _ (by omega) ⟨b + 1, cf ++ [(c, ((gbitsV 2 d').1 : Int))], _, _, by omega, rfl, by simp [hcf], by rw [he]; simp, hR5.chg hcs5 (fun e => by have := h.next; omega) (fun e => by have := h.dec.next; omega), Mem.get_set _ _ _, hC2, (hch1.trans (hc5.mono fun b _ h => (.inl (.inr h) : Ij i j b ∨ b = m1.next)) (fun _ _ h => h)).trans (hcs5.mono fun b _ h => (.inr h : Ij i j b ∨ b = m1.next)) (fun _ _ h => h)⟩
    · rw [if_neg h2] at he
      simp -implicitDefEqProofs only [h2, decide_false, Bool.false_eq_true, if_false, code_reader_channel_j0, simpS, Nat.reduceAdd, e4]
      exact ih (f - 1) _ _ (by omega) ⟨b + 1, cf ++ [(c, 0)], d', _, by omega, rfl, by simp [hcf], by rw [he]; simp, hR1, hg1, hC1, hch1⟩
  · obtain rfl : b = r.length := by omega
    have d1 : ¬ (r.length : Int) < (r.length : Int) := by omega
    rw [List.drop_length, takeF, List.append_nil] at he
    subst he
    simp -implicitDefEqProofs only [List.getD_cons_zero, List.getD_cons_succ, code_reader_channel_l0, simpS, Nat.reduceAdd, d1, decide_false, Bool.false_eq_true, if_false, hr.len]
    have hg4' := (hch.get m.next (by omega) (fun hF => by rcases hF with hF | hF; have := hIj _ hF; omega; omega)).trans hg43
    have hbb := hch.base
    have hF : ∀ m'', Chg (fun b => Ij i j b ∨ b = m1.next ∨ b = m.next) m' m'' → Chg (Ij i j) m m'' := fun m'' k => by
      have : Chg (fun b => Ij i j b ∨ b = m1.next ∨ b = m.next) m m'' := (hS03.mono fun _ _ h => h.elim).trans ((hch.mono fun _ _ h => by rcases h with h | h; exact .inl h; exact .inr (.inl h)).trans k (fun _ _ h => h)) (fun _ _ h => h)
      exact this.mono fun b hb h => by
        rcases h with h | h | h
        · exact h
        · omega
        · omega
    refine reader_l1_ok (K := K) (cf := cf) (cs := cs) (i5 := m2.next) (i4 := m.next) (o := m1.next) hr' (fun b hb => ⟨by have := (hK b hb).1; omega, (hK b hb).2, by have := (hK b hb).1; omega⟩) hl hR hcf (by rw [hcf]; exact hC) hg hg5' ⟨_, hg4'⟩ ⟨hbm', by omega, fun e => by have := hIj _ e; omega⟩ ⟨by omega, by omega, fun e => by have := hIj _ e; omega, by omega⟩ ⟨by omega, fun e => by have := hIj _ e; omega, by omega⟩ rfl hZin (fun m'' ps d'' hb0 ht hR'' hch'' hB => ?_) (fun m'' d'' hd hR'' hch'' => ?_)
    · refine hq m'' _ ps d'' hb0 ht hR'' (hF m'' hch'') (bandsR_mono hB fun b hb => ?_)
      have := hch''.next
      rcases hb with rfl | hb <;> omega
    · exact hq0 m'' _ d'' (by simp [AV.one]) hd hR'' (hF m'' hch'')
end SplA

/- The reader of frames: a frame. -/
namespace SplA
open Go.Proofs.YtooogfnmhfocjaaDoor.Spl Go Go.Proofs
set_option maxRecDepth 100000
set_option linter.unusedVariables false
set_option linter.unusedSimpArgs false

theorem takeCs_step {q : Int} {intra : Bool} {p : List (List Int)} {n i : Nat} {d : Dec} {done : List (List BandD)} {z : Option (List (List BandD) × Dec)} (h : (takeCs q intra p (n + 1) i d).map (fun y => (done ++ y.1, y.2)) = z) :
    (∀ x, takeC q intra (p.getD i []) d = some x → (takeCs q intra p n (i + 1) x.2).map (fun y => (done ++ [x.1] ++ y.1, y.2)) = z) ∧ (takeC q intra (p.getD i []) d = none → z = none) := by
  unfold takeCs at h
  refine ⟨fun x hx => ?_, fun hx => ?_⟩
  · rw [hx] at h
    simp -implicitDefEqProofs only [Option.map_map] at h
    rw [← h]
    congr 1
    funext y
    simp
  · rw [hx] at h
    exact h.symm
/-- Slices of channels, each of bands of its own. -/
def ChansB (K : Nat → Prop) (m : Mem) (us : List AV) (cs : List (List BandD)) : Prop := us.length = cs.length ∧ ∀ (k : Nat) u c, us[k]? = some u → cs[k]? = some c → BandsR K m u c
theorem ChansB.keep {K L : Nat → Prop} {m m' : Mem} {us : List AV} {cs : List (List BandD)} (h : ChansB K m us cs) (hk : ∀ b, K b → m'.get b = m.get b) (hL : ∀ b, K b → L b) : ChansB L m' us cs :=
  ⟨h.1, fun k u c h1 h2 => bandsR_mono ((h.2 k u c h1 h2).keep hk) hL⟩
theorem ChansB.put {K : Nat → Prop} {m : Mem} {us : List AV} {cs : List (List BandD)} {u : AV} {c : List BandD} (h : ChansB K m us cs) (hu : BandsR K m u c) : ChansB K m (us ++ [u]) (cs ++ [c]) := by
  refine ⟨by simp [h.1], fun k u' c' h1 h2 => ?_⟩
  have hl := h.1
  rcases Nat.lt_or_ge k us.length with hk | hk
  · rw [List.getElem?_append_left hk] at h1
    rw [List.getElem?_append_left (by omega)] at h2
    exact h.2 k u' c' h1 h2
  · rw [List.getElem?_append_right hk] at h1
    rw [List.getElem?_append_right (by omega)] at h2
    rw [← hl] at h2
    have e := (List.getElem?_eq_some_iff.1 h1).1
    simp at e
    have e0 : k - us.length = 0 := by omega
    rw [e0] at h1 h2
    simp at h1 h2
    subst h1 h2
    exact hu
theorem ChansB.chans {K L : Nat → Prop} {m : Mem} {us : List AV} {cs : List (List BandD)} {T fz : Nat} {u : AV} (h : ChansB K m us cs) (hB : Buf T fz m u us) (hK : ∀ b, K b → L b) (ho : ∀ b, own u b → L b) : ChansR L m u cs := by
  rcases hB with ⟨rfl, hu⟩ | ⟨j, rfl, h1, h2, -⟩
  · subst hu
    exact .inl ⟨.inl rfl, List.length_eq_zero_iff.1 h.1.symm⟩
  · rw [h.1]
    exact slR_own2 (ho j rfl) h2 h.1 (fun k u x hu hx => ⟨u, rfl, bandsR_mono (h.2 k u x hu hx) hK⟩)

theorem reader_l0_ok {K : Nat → Prop} {p : List (List Int)} {va : AV} {n : Nat} {i j i6 i7 : Nat} {q : Int} {bad : Bool} {d : Dec} {m : Mem} {Q : AV → Mem → Prop} {sh si intra : Bool} {ga : Int} {tot : Option (List (List BandD) × Dec)}
    (hn : n ≤ 2) (hA : intra = true ∨ (AheadP p n ∧ RowsR K m va p) ∨ bad = true) (hK : ∀ b, K b → b < m.next ∧ ¬ Ij i j b ∧ b ≠ i7) (h : RdrAt m i j q bad d) (hg7 : m.get i7 = .cells T_api_Frame 0 [.bool sh, .bool si, .bool intra, .int .i64 ga, .nilslice]) (hg6 : ∃ cs6, cs6.length = 5 ∧ m.get i6 = .cells T_api_Frame 0 cs6)
    (h7 : m.base ≤ i7 ∧ i7 < m.next ∧ ¬ Ij i j i7) (h6 : m.base ≤ i6 ∧ i6 < m.next ∧ ¬ Ij i j i6 ∧ i6 ≠ i7) (ht : takeCs q intra p n 0 d = tot) {a1 a2 a3 a4 a5 : AV}
    (hq : ∀ m' u cs d', bad = false → tot = some (cs, d') → RdrAt m' i j q false d' → Chg (fun b => Ij i j b ∨ b = i7 ∨ b = i6) m m' → ChansR (fun b => m.next ≤ b ∧ b < m'.next) m' u cs → Q (.agg [.bool sh, .bool si, .bool intra, .int .i64 ga, u]) m')
    (hq0 : ∀ m' u d', u.one = true → (bad = true ∨ tot = none) → RdrAt m' i j q true d' → Chg (fun b => Ij i j b ∨ b = i7 ∨ b = i6) m m' → Q (.agg [.bool sh, .bool si, .bool intra, .int .i64 ga, u]) m') :
    Ok (fun k => loopN (fun r l => code_reader_frame_l0 (fcall Tryd.prog ext1 k) k r (l.getD 0 .undef) (l.getD 1 .undef) (l.getD 2 .undef) (l.getD 3 .undef) (l.getD 4 .undef) (l.getD 5 .undef) (l.getD 6 .undef) (l.getD 7 .undef) (l.getD 8 .undef) (l.getD 9 .undef) (l.getD 10 .undef)) k [.ptr i 0, .int .i64 n, va, .ptr i6 0, .ptr i7 0, .int .i64 0, a1, a2, a3, a4, a5]) m Q := by
  have hIj : ∀ b, Ij i j b → b < m.next := by
    intro b hb
    have h1 := h.next
    have h2 := h.dec.next
    rcases hb with rfl | rfl <;> omega
  refine Ok.loop (fun f z m' => ∃ (ii fz : Nat) (us : List AV) (u : AV) (d' : Dec) (bad' : Bool) (a1 a2 a3 a4 a5 : AV), f + ii = n ∧ z = [.ptr i 0, .int .i64 n, va, .ptr i6 0, .ptr i7 0, .int .i64 ii, a1, a2, a3, a4, a5] ∧ RdrAt m' i j q bad' d' ∧ m'.get i7 = .cells T_api_Frame 0 [.bool sh, .bool si, .bool intra, .int .i64 ga, u] ∧ Buf T_api_Chan fz m' u us ∧ us.length ≤ ii ∧ (∀ b, own u b → m.next ≤ b) ∧ Chg (fun b => Ij i j b ∨ b = i7) m m' ∧ ((bad' = true ∧ (bad = true ∨ tot = none)) ∨ (bad' = false ∧ bad = false ∧ ∃ cs, ChansB (fun b => (m.next ≤ b ∧ b < m'.next) ∧ ¬ own u b) m' us cs ∧ (takeCs q intra p (n - ii) ii d').map (fun y => (cs ++ y.1, y.2)) = tot))) ?_ (k := n) ⟨0, 0, [], .nilslice, d, bad, _, _, _, _, _, rfl, rfl, h, hg7, .inl ⟨rfl, rfl⟩, Nat.le_refl _, fun b h => h.elim, Chg.refl _ _, ?_⟩
  rotate_left
  · cases bad with
    | true => exact .inl ⟨rfl, .inl rfl⟩
    | false => exact .inr ⟨rfl, rfl, [], ⟨rfl, fun k u c h1 => by simp at h1⟩, by rw [Nat.sub_zero, ht]; simp⟩
  clear hg7 ht
  rintro f z m' rec ⟨ii, fz, us, u, d', bad', a1, a2, a3, a4, a5, hf, rfl, hR, hg7, hB, hul, hown, hch, hdis⟩ ih
  -- the end
  have hend : ((bad' = true ∧ (bad = true ∨ tot = none)) ∨ (bad' = false ∧ bad = false ∧ ∃ cs d'', ChansB (fun b => (m.next ≤ b ∧ b < m'.next) ∧ ¬ own u b) m' us cs ∧ tot = some (cs, d'') ∧ d'' = d')) → ∀ b1 b2 b3 b4 b5 : AV, Ok (fun k => code_reader_frame_j2 (fcall Tryd.prog ext1 k) k (rec k) (.ptr i 0) (.int .i64 n) va (.ptr i6 0) (.ptr i7 0) (.int .i64 ii) b1 b2 b3 b4 b5 (.bool false)) m' Q := by
    intro hd b1 b2 b3 b4 b5
    obtain ⟨cs6, hl6, hg6⟩ := hg6
    have hg6' := (hch.get i6 h6.2.1 (fun hF => by rcases hF with hF | hF; exact h6.2.2.1 hF; exact h6.2.2.2 hF)).trans hg6
    have l7 : load? (some 5) (.ptr i7 0) m' = some (.agg [.bool sh, .bool si, .bool intra, .int .i64 ga, u]) := by rw [load_at' hg7]; rfl
    have hbm : m'.base ≤ i6 := by rw [hch.base]; exact h6.1
    have hst := fun (k : Nat → AV → M AV) => ok_storeAll (i := i6) (k := k) (Q := Q) (vs := [.bool sh, .bool si, .bool intra, .int .i64 ga, u]) (n := 5) hg6' hbm rfl hl6 (by simp [hB.one])
    have l6 : load? (some 5) (.ptr i6 0) (m'.set i6 (.cells T_api_Frame 0 [.bool sh, .bool si, .bool intra, .int .i64 ga, u])) = some (.agg [.bool sh, .bool si, .bool intra, .int .i64 ga, u]) := by rw [load_at' (Mem.get_set _ _ _)]; rfl
    have hcs := Chg.set m' i6 (.cells T_api_Frame 0 [.bool sh, .bool si, .bool intra, .int .i64 ga, u])
    simp -implicitDefEqProofs only [code_reader_frame_j2, simpS, Nat.reduceAdd, Bool.false_eq_true, if_false, l7, hst, l6]
    have hR4 := hR.chg hcs (fun e => h6.2.2.1 (.inl e.symm)) (fun e => h6.2.2.1 (.inr e.symm))
    have hF : Chg (fun b => Ij i j b ∨ b = i7 ∨ b = i6) m (m'.set i6 (.cells T_api_Frame 0 [.bool sh, .bool si, .bool intra, .int .i64 ga, u])) := (hch.mono fun _ _ h => by rcases h with h | h; exact .inl h; exact .inr (.inl h)).trans (hcs.mono fun b _ h => (.inr (.inr h) : Ij i j b ∨ b = i7 ∨ b = i6)) (fun _ _ h => h)
    rcases hd with ⟨hd1, hd2⟩ | ⟨hd1, hd2, cs, d'', hd3, hd4, hd5⟩
    · subst hd1
      exact hq0 _ u d' hB.one hd2 hR4 hF
    · subst hd1 hd5
      refine hq _ u cs d'' hd2 hd4 hR4 hF ?_
      have hnn : (m'.set i6 (.cells T_api_Frame 0 [.bool sh, .bool si, .bool intra, .int .i64 ga, u])).next = m'.next := rfl
      refine (hd3.keep (L := fun b => m.next ≤ b ∧ b < m'.next) (fun b hb => hcs.get b hb.1.2 (by have := h6.2.1; have := hb.1.1; omega)) (fun b hb => hb.1)).chans (hB.chg hcs fun b hb => by have := hown b hb; have := h6.2.1; omega) (fun b hb => hb) (fun b hb => ⟨hown b hb, (hB.own hb).2⟩)
  by_cases h1 : ii < n
  · have d1 : (ii : Int) < (n : Int) := by omega
    simp -implicitDefEqProofs only [List.getD_cons_zero, List.getD_cons_succ, code_reader_frame_l0, simpS, Nat.reduceAdd, d1, decide_true, if_true, load_at hR.get]
    cases hb' : bad' with
    | true =>
      subst hb'
      simp -implicitDefEqProofs only [simpS, Nat.reduceAdd, Bool.not_true]
      refine hend ?_ _ _ _ _ _
      rcases hdis with hd | hd
      · exact .inl hd
      · exact absurd hd.1 (by decide)
    | false =>
      subst hb'
      have hdis := hdis.resolve_left (fun h => by cases h.1)
      obtain ⟨-, hbad, cs, hCB, htk⟩ := hdis
      have hsub : n - ii = n - (ii + 1) + 1 := by omega
      rw [hsub] at htk
      obtain ⟨t1, t2⟩ := takeCs_step htk
      -- the body, behind a row
      have hj3 : ∀ (L : Nat → Prop) (vl : AV) (pl : List Int), IntsR L m' vl pl → (∀ b, L b → b < m'.next ∧ ¬ Ij i j b) → pl.length ≤ 1000 → takeC q intra pl d' = takeC q intra (p.getD ii []) d' → ∀ b1 b2 b3 b4 b5 : AV,
          Ok (fun k => code_reader_frame_j3 (fcall Tryd.prog ext1 k) k (rec k) (.ptr i 0) (.int .i64 n) va (.ptr i6 0) (.ptr i7 0) (.int .i64 ii) vl b1 b2 b3 b4 b5) m' Q := by
        intro L vl pl hvl hL hpl htc b1 b2 b3 b4 b5
        simp -implicitDefEqProofs only [code_reader_frame_j3, simpS, Nat.reduceAdd, load_at hg7]
        have hn' := hch.next
        -- behind the channel
        have hrest : ∀ (m3 : Mem) (w : AV) (d2 : Dec) (bad2 : Bool), w.one = true → RdrAt m3 i j q bad2 d2 → Chg (Ij i j) m' m3 → ((bad2 = true ∧ tot = none) ∨ (bad2 = false ∧ ∃ c, BandsR (fun b => m'.next ≤ b ∧ b < m3.next) m3 w c ∧ (takeCs q intra p (n - (ii + 1)) (ii + 1) d2).map (fun y => (cs ++ [c] ++ y.1, y.2)) = tot)) →
            Ok (fun k => snap fun m_3 => same none (.ptr i7 4) u m_3 <| snap fun _ => lp (aFill (fun i => some (i * 1, 1)) [.nilslice] [(0, .agg [w])]) fun cs => bnd (allocS T_api_Chan 1 1 cs) fun v69 => snap fun m_5 => same none (.ptr i7 4) u m_5 <| snap fun _ => bnd (append T_api_Chan 1 24 u v69) fun v70 => snap fun _ => lp (aOff 4 (.ptr i7 0)) fun v71 => snap fun _ => bnd (store none v71 v70) fun u_7 => snap fun _ => lp (aBin .add [] (.int .i64 ii) (.int .i64 1)) fun v52 => rec k [.ptr i 0, .int .i64 n, va, .ptr i6 0, .ptr i7 0, v52, b1, b2, b3, b4, b5]) m3 Q := by
          intro m3 w d2 bad2 hw hR3 hch3 hd3
          have hg73 := (hch3.get i7 (Nat.lt_of_lt_of_le h7.2.1 hch.next) h7.2.2).trans hg7
          have hn3 := hch3.next
          have e3 : aFill (fun i => some (i * 1, 1)) [.nilslice] [(0, .agg [w])] = some [w] := rfl
          have s1 : ∀ k : M AV, same none (.ptr i7 4) u m3 k = k := fun k => same_load (by rw [load_at hg73]; rfl) hB.eqb k
          have hg7a : (m3.alloc (.cells T_api_Chan 0 [w])).get i7 = .cells T_api_Frame 0 [.bool sh, .bool si, .bool intra, .int .i64 ga, u] := ((Same.alloc m3 (.cells T_api_Chan 0 [w])).get (by have := h7.2.1; omega)).trans hg73
          have s2 : ∀ k : M AV, same none (.ptr i7 4) u (m3.alloc (.cells T_api_Chan 0 [w])) k = k := fun k => same_load (by rw [load_at hg7a]; rfl) hB.eqb k
          have e4 : IntKind.i64.wrap ((ii : Int) + 1) = ((ii + 1 : Nat) : Int) := by rw [IntWalk.i64_in _ (by omega)]; omega
          have hB3 := hB.chg hch3 (fun b hb hF => by have := hown b hb; have := hIj b hF; omega)
          simp -implicitDefEqProofs only [simpS, Nat.reduceAdd, s1, e3, ok_allocS, s2]
          refine ok_append1 hB3 hR3.bn hw (by omega) fun m4 u4 fz4 k1 k2 k3 k4 => ?_
          have hoi : ∀ b, own u b → ¬ Ij i j b ∧ b ≠ i7 := fun b hb => ⟨fun hF => by have := hown b hb; have := hIj b hF; omega, fun e => by have := hown b hb; have := h7.2.1; omega⟩
          have hg74 := (k1.get i7 (by have := h7.2.1; omega) (fun e => (hoi _ e).2 rfl)).trans hg73
          have hbm4 : m4.base ≤ i7 := by rw [k1.base, hch3.base, hch.base]; exact h7.1
          have hst := fun (k : Nat → AV → M AV) => ok_store (k := k) (Q := Q) (o := 4) (v := u4) hg74 hbm4 (Nat.zero_le _) (by simp) (Buf.one k2)
          have hR4 := hR3.chg k1 (fun e => (hoi _ e).1 (.inl rfl)) (fun e => (hoi _ e).1 (.inr rfl))
          have hcs := Chg.set m4 i7 (.cells T_api_Frame 0 [.bool sh, .bool si, .bool intra, .int .i64 ga, u4])
          have hn4 := k1.next
          have hnn : (m4.set i7 (.cells T_api_Frame 0 [.bool sh, .bool si, .bool intra, .int .i64 ga, u4])).next = m4.next := rfl
          have ho4 : ∀ b, own u4 b → m.next ≤ b := fun b hb => by have := k3 b hb; omega
          simp -implicitDefEqProofs only [simpS, Nat.reduceAdd, hst, e4]
          refine ih (f - 1) _ _ (by omega) ⟨ii + 1, fz4, us ++ [w], u4, d2, bad2, _, _, _, _, _, by omega, rfl, hR4.chg hcs (fun e => h7.2.2 (.inl e.symm)) (fun e => h7.2.2 (.inr e.symm)), Mem.get_set _ _ _, k2.chg hcs (fun b hb => by have := ho4 b hb; have := h7.2.1; omega), by simp; omega, ho4, ?_, ?_⟩
          · refine ⟨by show m4.base = _; rw [k1.base, hch3.base, hch.base], by show _ ≤ m4.next; omega, fun b hb hF => ?_⟩
            rw [hcs.get b (by omega) (fun e => hF (.inr e)), k1.get b (by omega) (fun e => by have := hown b e; omega), hch3.get b (by omega) (fun e => hF (.inl e)), hch.get b hb hF]
          · rcases hd3 with ⟨g1, g2⟩ | ⟨g1, c, g2, g3⟩
            · exact .inl ⟨g1, .inr g2⟩
            · refine .inr ⟨g1, hbad, cs ++ [c], ChansB.put ?_ ?_, g3⟩
              · refine hCB.keep (fun b hb => ?_) (fun b hb => ⟨⟨hb.1.1, ?_⟩, fun e => ?_⟩)
                · rw [hcs.get b (by have := hb.1.2; omega) (fun e => by have := h7.2.1; have := hb.1.1; omega), k1.get b (by have := hb.1.2; omega) hb.2, hch3.get b hb.1.2 (fun e => by have := hIj b e; have := hb.1.1; omega)]
                · have := hb.1.2; show b < m4.next; omega
                · have := k3 b e; have := hb.1.2; omega
              · refine bandsR_mono (g2.keep (m' := m4.set i7 (.cells T_api_Frame 0 [.bool sh, .bool si, .bool intra, .int .i64 ga, u4])) fun b hb => ?_) (fun b hb => ⟨⟨by omega, by show b < m4.next; omega⟩, fun e => by have := k3 b e; omega⟩)
                rw [hcs.get b (by omega) (fun e => by have := h7.2.1; omega), k1.get b hb.2 (fun e => by have := (hB.own e).2; omega)]
        have s0 : ∀ (m3 : Mem), Chg (Ij i j) m' m3 → ∀ k : M AV, same none (.ptr i7 4) u m3 k = k := fun m3 hch3 k => same_load (by rw [load_at ((hch3.get i7 (Nat.lt_of_lt_of_le h7.2.1 hch.next) h7.2.2).trans hg7)]; rfl) hB.eqb k
        refine Ok.bnd (reader_row_ok hvl hL (by omega) hR (fun m2 ur r hro hR2 hch2 hur => ?_) (fun m2 hro hR2 hch2 => ?_))
        · have hrin := RowO_in hro
          simp -implicitDefEqProofs only [simpS, Nat.reduceAdd, s0 m2 hch2]
          refine Ok.bnd (reader_channel_ok hur (fun b hb => ⟨hb.2, fun e => by have := hIj b e; omega⟩) (by rw [hrin.1]; decide) hrin.2 hR2 (fun m3 w ps d3 _ htp hR3 hch3 hw => ?_) (fun m3 w d3 hw hd hR3 hch3 => ?_))
          · refine hrest m3 w d3 false (SlR.one hw) hR3 (ijT hch2 hch3) (.inr ⟨rfl, _, bandsR_mono hw fun b hb => ⟨by have := hch2.next; omega, hb.2⟩, ?_⟩)
            have htc' : takeC q intra (p.getD ii []) d' = some (bandsOf (takeF r (takeDs 13 d').2).1 ps, d3) := by
              rw [← htc]
              unfold takeC
              rw [hro]
              simp -implicitDefEqProofs only [htp, Option.map_some]
            exact t1 _ htc'
          · refine hrest m3 w d3 true hw hR3 (ijT hch2 hch3) (.inl ⟨rfl, t2 ?_⟩)
            have hnone := hd.resolve_left (by decide)
            rw [← htc]
            unfold takeC
            rw [hro]
            simp -implicitDefEqProofs only [hnone, Option.map_none]
        · simp -implicitDefEqProofs only [simpS, Nat.reduceAdd, s0 m2 hch2]
          have hnil : IntsR (fun _ => False) m2 .nilslice [] := .inl ⟨.inl rfl, rfl⟩
          have hnone : takeC q intra (p.getD ii []) d' = none := by
            rw [← htc]
            unfold takeC
            rw [hro]
          refine Ok.bnd (reader_channel_ok hnil (fun b hb => hb.elim) (Nat.zero_le _) (fun x hx => by simp at hx) hR2 (fun m3 w ps d3 hb _ _ _ _ => by cases hb) (fun m3 w d3 hw hd hR3 hch3 => ?_))
          exact hrest m3 w d3 true hw hR3 (ijT hch2 hch3) (.inl ⟨rfl, t2 hnone⟩)
      simp -implicitDefEqProofs only [simpS, Nat.reduceAdd, Bool.not_false, code_reader_frame_j2, if_true, load_at hg7]
      cases hin : intra with
      | true =>
        subst hin
        simp -implicitDefEqProofs only [simpS, Nat.reduceAdd, Bool.not_true, Bool.false_eq_true, if_false]
        exact hj3 (fun _ => False) .nilslice [] (.inl ⟨.inl rfl, rfl⟩) (fun b hb => hb.elim) (Nat.zero_le _) (takeC_intra _ _ _ _) _ _ _ _ _
      | false =>
        subst hin
        have hA' := (hA.resolve_left (by decide)).resolve_right (by rw [hbad]; decide)
        obtain ⟨hA1, hA2⟩ := hA'
        have hlen : ii < p.length := by have := hA1.1; omega
        have hpj : p[ii]? = some (p.getD ii []) := by rw [List.getD_eq_getElem?_getD, List.getElem?_eq_getElem hlen]; rfl
        have hA3 := hA2.keep (m' := m') (fun b hb => hch.get b (hK b hb).1 (fun hF => by rcases hF with hF | hF; exact (hK b hb).2.1 hF; exact (hK b hb).2.2 hF))
        obtain ⟨b3, o3, ce3, hix3, -, -, ⟨vl, rfl, hR3⟩, -, hld3⟩ := hA3.at hpj
        have l3 : load? none (.ptr b3 o3) m' = some vl := hld3 0 _ rfl
        have hrl := (hA1.2 _ (List.mem_of_getElem? hpj)).1
        simp -implicitDefEqProofs only [simpS, Nat.reduceAdd, Bool.not_false, if_true, hix3, l3]
        exact hj3 K vl _ hR3 (fun b hb => ⟨Nat.lt_of_lt_of_le (hK b hb).1 hch.next, (hK b hb).2.1⟩) (by omega) rfl _ _ _ _ _
  · obtain rfl : ii = n := by omega
    have d1 : ¬ (ii : Int) < (ii : Int) := by omega
    simp -implicitDefEqProofs only [List.getD_cons_zero, List.getD_cons_succ, code_reader_frame_l0, simpS, Nat.reduceAdd, d1, decide_false, Bool.false_eq_true, if_false]
    refine hend ?_ _ _ _ _ _
    rcases hdis with hd | ⟨hd1, hd2, cs, hd3, hd4⟩
    · exact .inl hd
    · rw [Nat.sub_self, takeCs, Option.map_some, List.append_nil] at hd4
      exact .inr ⟨hd1, hd2, cs, d', hd3, hd4.symm, rfl⟩
end SplA

/- Put: the octets of a frame. -/
namespace SplA
open Go.Proofs.YtooogfnmhfocjaaDoor.Spl Go Go.Proofs
set_option maxRecDepth 100000
set_option linter.unusedVariables false
set_option linter.unusedSimpArgs false

theorem ChansR.mono {K L : Nat → Prop} {m : Mem} {v : AV} {l : List (List BandD)} (h : ChansR K m v l) (hK : ∀ b, K b → L b) : ChansR L m v l :=
  SlR.mono h hK (fun _ _ ⟨v, h1, h2⟩ => ⟨v, h1, SlR.mono h2 hK (fun _ _ ⟨v, k1, k2, k3, k4⟩ => ⟨v, k1, k2, k3, k4.mono hK⟩)⟩)
theorem RowsR.mono {K L : Nat → Prop} {m : Mem} {v : AV} {l : List (List Int)} (h : RowsR K m v l) (hK : ∀ b, K b → L b) : RowsR L m v l :=
  SlR.mono h hK (fun _ _ ⟨v, h1, h2⟩ => ⟨v, h1, h2.mono hK⟩)

theorem put_l0_ok {K : Nat → Prop} {i i4 : Nat} {f : FrameD} {p : List (List Int)} {n q : Int} {x0 : Iv} {m0 : Mem} {v u vp : AV} {Q : AV → Mem → Prop} (hv : ChansR K m0 v f.chans) (hu : RowsR K m0 u (f.chans.map fun c => c.map BandD.c)) (hp : f.intra = true ∨ (RowsR K m0 vp p ∧ AheadP p n)) (hfit : FitP f n q) (hn : x0.n + 3 * (40 * 39 * 2) < 2 ^ 38) (hK4 : K i4) (hg4 : m0.get i4 = .cells T_api_Frame 0 (frameC f v))
    (hw : Wst K i [.int .i64 q] x0 m0) (hq : ∀ m', Kept K m0 m' → Q (.tup [.str (bs (x0.parts (chansP q f p 0 f.chans)).ends), .int .i64 0]) m') :
    Ok (fun n => loopN (fun r l => code_Put_l0 (fcall Tryd.prog ext1 n) n r (l.getD 0 .undef) (l.getD 1 .undef) (l.getD 2 .undef) (l.getD 3 .undef) (l.getD 4 .undef) (l.getD 5 .undef)) n [vp, .ptr i4 0, .ptr i 0, u, .int .i64 f.chans.length, .int .i64 0]) m0 Q := by
  have hlen2 : f.chans.length ≤ 2 := by have := hfit.1; have := hfit.2.1; omega
  refine Ok.loop (fun k l m => ∃ (j : Nat) (x : Iv), k + j = f.chans.length ∧ l = [vp, .ptr i4 0, .ptr i 0, u, .int .i64 f.chans.length, .int .i64 j] ∧ x.n ≤ x0.n + 3 * (40 * 39 * j) ∧ x.parts (chansP q f p j (f.chans.drop j)) = x0.parts (chansP q f p 0 f.chans) ∧ Wst K i [.int .i64 q] x m ∧ Kept K m0 m) ?_ (k := f.chans.length) ⟨0, x0, rfl, rfl, Nat.le_refl _, rfl, hw, Kept.refl _ _⟩
  clear hw
  rintro k l m rec ⟨j, x, hk, rfl, hxn, hx, hw, hkept⟩ ih
  have hv' := hv.keep (m' := m) hkept.get
  have hu' := hu.keep (m' := m) hkept.get
  have hg4' := (hkept.get i4 hK4).trans hg4
  unfold frameC at hg4'
  by_cases h1 : j < f.chans.length
  · have d1 : (j : Int) < (f.chans.length : Int) := by omega
    obtain ⟨c, hc, hdrop⟩ := drop_cons' h1
    have hcP := hfit.2.2.2.2.2 c (List.mem_of_getElem? hc)
    obtain ⟨b1, o1, ce1, hix1, -, -, ⟨vr, rfl, hR1⟩, -, hld1⟩ := hu'.at (k := j) (x := c.map BandD.c) (by rw [List.getElem?_map, hc]; rfl)
    have l1 : load? none (.ptr b1 o1) m = some vr := hld1 0 _ rfl
    obtain ⟨b2, o2, ce2, hix2, hKb2, -, ⟨vb, rfl, hb⟩, l2, -⟩ := hv'.at hc
    have hrow : (c.map BandD.c).length ≤ 4611686018427387904 := by rw [List.length_map, hcP.1]; decide
    have e4 : IntKind.i64.wrap ((j : Int) + 1) = ((j + 1 : Nat) : Int) := by rw [IntWalk.i64_in _ (by omega)]; omega
    rw [hdrop, chansP, Iv.parts_append] at hx
    generalize hds : deltasO f.intra (lastN f p j) (c.map BandD.c) = ds at hx
    have hdl : ds.length ≤ 13 := by
      rw [← hds]
      refine Nat.le_trans (deltasO_length _ _ _) ?_
      rw [List.length_map, hcP.1]
      exact Nat.le_refl _
    have hle := chanP_le (q := q) (d := ds) hcP.1 hdl
    have hpn := Iv.parts_n (chanP q c ds) x
    have hj2 : ∀ (L : Nat → Prop) (vl : AV), IntsR L m vl (lastN f p j) → (∀ b, L b → b < m.next) → (lastN f p j).length ≤ 1000 → Ok (fun n => code_Put_j2 (fcall Tryd.prog ext1 n) n (rec n) vp (.ptr i4 0) (.ptr i 0) (.int .i64 j) vr vl u (.int .i64 f.chans.length) (.int .i64 j)) m Q := by
      intro L vl hvl hL hll
      simp -implicitDefEqProofs only [code_Put_j2, simpS, Nat.reduceAdd, load_at hg4', hix2, l2]
      refine Ok.bnd (deltas_ok hR1 hw.lt hvl hL hw.bn (by omega) hrow fun m1 vd hS hvd => ?_)
      rw [hds] at hvd
      have hw1 := hw.same hS
      have hg1 : m1.get i4 = m.get i4 := hS.get (hw.lt i4 hK4)
      have s1 : ∀ k : M AV, same none (.ptr i4 4) v m1 k = k := fun k => same_load (by rw [load_keep hg1, load_at hg4']; rfl) hv.eqb k
      have s2 : ∀ k : M AV, same (some 1) (.ptr b2 o2) (.agg [vb]) m1 k = k := fun k => same_load (by rw [load_keep (hS.get (hw.lt b2 hKb2))]; exact l2) (by simp [AV.eqb, AV.eqbs, hb.eqb]) k
      simp -implicitDefEqProofs only [simpS, Nat.reduceAdd, s1, s2]
      have hkm : ∀ b, K b → m1.get b = m.get b := fun b hb => hS.get (hw.lt b hb)
      refine Ok.bnd (channel_ok (K := fun b => K b ∨ (m.next ≤ b ∧ b < m1.next)) (c := c) (d := ds) (SlR.mono (hb.keep hkm) (fun b hb => .inl hb) (fun _ _ ⟨v, k1, k2, k3, k4⟩ => ⟨v, k1, k2, k3, k4.mono fun b hb => .inl hb⟩)) hcP.1 (hvd.mono fun b hb => .inr hb) hdl (by omega) hw1 fun m2 k1 k2 => ?_)
      simp -implicitDefEqProofs only [simpS, Nat.reduceAdd, e4]
      exact ih (k - 1) _ _ (by omega) ⟨j + 1, _, by omega, rfl, by omega, hx, k1.mono fun b hb => .inl hb, hkept.trans ((hS.kept hw.lt).trans (k2.mono fun b hb => .inl hb))⟩
    simp -implicitDefEqProofs only [List.getD_cons_zero, List.getD_cons_succ, code_Put_l0, simpS, Nat.reduceAdd, d1, decide_true, if_true, hix1, l1, load_at hg4']
    by_cases h2 : f.intra = true
    · simp -implicitDefEqProofs only [h2, Bool.not_true, Bool.false_eq_true, if_false]
      have : lastN f p j = [] := if_pos h2
      exact hj2 (fun _ => False) .nilslice (by rw [this]; exact .inl ⟨.inl rfl, rfl⟩) (fun _ h => h.elim) (by rw [this]; exact Nat.zero_le _)
    · have h2' : f.intra = false := by simpa using h2
      simp -implicitDefEqProofs only [h2', Bool.not_false, if_true]
      rcases hp with hp | ⟨hp, hA⟩
      · exact absurd hp h2
      have hpl : p.length = f.chans.length := by have := hA.1; have := hfit.2.1; omega
      have hpj : p[j]? = some (lastN f p j) := by
        simp -implicitDefEqProofs only [lastN, h2', Bool.false_eq_true, if_false]
        rw [List.getD_eq_getElem?_getD, List.getElem?_eq_getElem (by omega)]; rfl
      obtain ⟨b3, o3, ce3, hix3, -, -, ⟨vl, rfl, hR3⟩, -, hld3⟩ := (hp.keep (m' := m) hkept.get).at hpj
      have l3 : load? none (.ptr b3 o3) m = some vl := hld3 0 _ rfl
      have hrl := (hA.2 _ (List.mem_of_getElem? hpj)).1
      simp -implicitDefEqProofs only [hix3, simpS, Nat.reduceAdd, l3]
      exact hj2 K vl hR3 hw.lt (by omega)
  · obtain rfl : j = f.chans.length := by omega
    have d1 : ¬ (f.chans.length : Int) < (f.chans.length : Int) := by omega
    rw [List.drop_length, chansP] at hx
    obtain ⟨c, a, buf, g1, g2, g3, g4, g5, g6⟩ := hw
    simp -implicitDefEqProofs only [List.getD_cons_zero, List.getD_cons_succ, code_Put_l0, simpS, Nat.reduceAdd, d1, decide_false, Bool.false_eq_true, if_false, aNil_ptr]
    refine Ok.bnd (end_ok g1 g2 (by omega) fun m' k1 k2 => ?_)
    simp -implicitDefEqProofs only [simpS, Nat.reduceAdd]
    have hq' := hq m' (hkept.trans ⟨k2.base, k2.next, fun b hb => k2.get b (g5 b hb) (fun h => g6 b (.inr h) hb)⟩)
    rw [← hx] at hq'
    exact hq'

theorem put_ok {K : Nat → Prop} {f : FrameD} {p : List (List Int)} {n q : Int} {m : Mem} {v vp : AV} {Q : AV → Mem → Prop} (hv : ChansR K m v f.chans) (hK : ∀ b, K b → b < m.next) (hbn : m.base ≤ m.next) (hp : RowsR K m vp p) (hlen : p.length ≤ 1000) (hlen2 : ∀ r ∈ p, r.length ≤ 1000)
    (h1 : PutP f n q p → ∀ m', Kept K m m' → Q (.tup [.str (bs (Iv.start.parts (frameP f n q p)).ends), .int .i64 0]) m')
    (h2 : ¬ PutP f n q p → ∀ m', Kept K m m' → Q (.tup [.str .empty, .int .i64 1]) m') : Ok (R fn_code_Put [.agg (frameC f v), .int .i64 n, .int .i64 q, vp]) m Q := by
  refine Ok.call (fun k => code_Put_eq rfl k _ _ _ _) ?_
  have hS0 := Same.alloc m (.cells T_api_Frame 0 (frameC f v))
  have hg := Mem.get_alloc m (.cells T_api_Frame 0 (frameC f v))
  have hnx : m.next < (m.alloc (.cells T_api_Frame 0 (frameC f v))).next := Nat.lt_succ_self _
  simp -implicitDefEqProofs only [code_Put, ok_box]
  generalize m.alloc (.cells T_api_Frame 0 (frameC f v)) = m1 at *
  have hk1 : ∀ b, K b → m1.get b = m.get b := fun b hb => hS0.get (hK b hb)
  have hv1 := hv.keep hk1
  have hp1 := hp.keep hk1
  have hK1 : ∀ b, K b → b < m1.next := fun b hb => Nat.lt_of_lt_of_le (hK b hb) hS0.next
  have hld : load? (some 5) (.ptr m.next 0) m1 = some (.agg (frameC f v)) := by rw [load_at' hg]; rfl
  have hmain : ∀ (va : AV), (AheadP p n → va = vp) → (¬ AheadP p n → va = .nilslice) → Ok (fun k => bnd (load (some 5) (.ptr m.next 0)) fun v17 => bnd (fcall Tryd.prog ext1 k fn_frame_Fit [v17, .int .i64 n, .int .i64 q]) fun v20 => lp (aUn .not v20) fun v21 => mc v21 (code_Put_j0 (fcall Tryd.prog ext1 k) k (.int .i64 n) (.int .i64 q) va (.ptr m.next 0) (.bool true)) (lp (aOff 2 (.ptr m.next 0)) fun v23 => bnd (load none v23) fun v24 => lp (aUn .not v24) fun v25 => mc v25 (lp (aBin .eql [4] va .nilslice) fun v28 => code_Put_j0 (fcall Tryd.prog ext1 k) k (.int .i64 n) (.int .i64 q) va (.ptr m.next 0) v28) (code_Put_j0 (fcall Tryd.prog ext1 k) k (.int .i64 n) (.int .i64 q) va (.ptr m.next 0) (.bool false)))) m1 Q := by
    intro va hva1 hva2
    simp -implicitDefEqProofs only [simpS, Nat.reduceAdd, hld]
    refine Ok.bnd (fit_ok hv1 hK1 (hS0.bn hbn) fun m2 b hb hS1 => ?_)
    have hS2 := hS0.trans hS1
    have hg2 := (hS1.get hnx).trans hg
    unfold frameC at hg2
    have hbad : ¬ PutP f n q p → Ok (fun k => code_Put_j0 (fcall Tryd.prog ext1 k) k (.int .i64 n) (.int .i64 q) va (.ptr m.next 0) (.bool true)) m2 Q := by
      intro h
      simp -implicitDefEqProofs only [code_Put_j0, simpS, Nat.reduceAdd, if_true]
      exact h2 h m2 (hS2.kept hK)
    cases b with
    | false =>
      have hnf : ¬ FitP f n q := fun h => by have := hb.2 h; cases this
      simp -implicitDefEqProofs only [simpS, Nat.reduceAdd, Bool.not_false, if_true]
      exact hbad (fun h => hnf h.1)
    | true =>
      have hF := hb.1 rfl
      simp -implicitDefEqProofs only [simpS, Nat.reduceAdd, Bool.not_true, Bool.false_eq_true, if_false, load_at hg2]
      have hgood : (f.intra = true ∨ AheadP p n) → Ok (fun k => code_Put_j0 (fcall Tryd.prog ext1 k) k (.int .i64 n) (.int .i64 q) va (.ptr m.next 0) (.bool false)) m2 Q := by
        intro hA
        have hf : (aFill (fun i => [(0, 7), (7, 1)][i]?) [.bool false, .int .u64 0, .nilptr, .nilslice, .int .u64 0, .int .i64 0, .int .i64 0, .int .i64 0] [(1, .int .i64 q)]).map AV.agg = some (.agg [.bool false, .int .u64 0, .nilptr, .nilslice, .int .u64 0, .int .i64 0, .int .i64 0, .int .i64 q]) := rfl
        have hbn2 := hS2.bn hbn
        have hcod := codNew_ok (rest := [.int .i64 q]) rfl hbn2
        simp -implicitDefEqProofs only [code_Put_j0, simpS, Nat.reduceAdd, Bool.false_eq_true, if_false, hf, ok_box]
        have hS3 := Same.alloc m2 (.cells T_code_writer 0 [.bool false, .int .u64 0, .nilptr, .nilslice, .int .u64 0, .int .i64 0, .int .i64 0, .int .i64 q])
        generalize m2.alloc (.cells T_code_writer 0 [.bool false, .int .u64 0, .nilptr, .nilslice, .int .u64 0, .int .i64 0, .int .i64 0, .int .i64 q]) = m3 at *
        have hnx2 : m.next < m2.next := Nat.lt_of_lt_of_le hnx hS1.next
        have hKK : ∀ b, (K b ∨ b = m.next) → b < m2.next := fun b hb => by
          rcases hb with hb | hb
          · exact Nat.lt_of_lt_of_le (hK b hb) hS2.next
          · rw [hb]; exact hnx2
        have hW : Wst (fun b => K b ∨ b = m.next) m2.next [.int .i64 q] Iv.start m3 := by
          refine ⟨_, _, _, hcod, start_is, Iv.start_fits, hS3.bn hbn2, fun b hb => Nat.lt_of_lt_of_le (hKK b hb) hS3.next, fun b hb hb' => ?_⟩
          have := hKK b hb'
          rcases hb with hb | hb
          · omega
          · exact hb.elim
        have hg3 := (hS3.get hnx2).trans hg2
        have hKm : Kept K m m3 := (hS2.trans hS3).kept hK
        have hn0 : Iv.start.n = 0 := rfl
        have hj1 : ∀ m4, Wst (fun b => K b ∨ b = m.next) m2.next [.int .i64 q] (Iv.start.parts (bitsP 1 (if f.short then 1 else 0) ++ (if n = 2 then bitsP 1 (if f.side then 1 else 0) else []))) m4 → Kept (fun b => K b ∨ b = m.next) m3 m4 → Ok (fun k => code_Put_j1 (fcall Tryd.prog ext1 k) k va (.ptr m.next 0) (.ptr m2.next 0)) m4 Q := by
          intro m4 hW4 hk4
          have hg4 := (hk4.get _ (.inr rfl)).trans hg3
          have hlen5 := headP_le f n
          simp -implicitDefEqProofs only [headP, List.length_append] at hlen5
          have hpn4 := Iv.parts_n (bitsP 1 (if f.short then 1 else 0) ++ (if n = 2 then bitsP 1 (if f.side then 1 else 0) else [])) Iv.start
          simp -implicitDefEqProofs only [List.length_append] at hpn4
          simp -implicitDefEqProofs only [code_Put_j1, simpS, Nat.reduceAdd, load_at hg4]
          refine Ok.bnd (Wst.puts flag_ok hW4 (by omega) fun m5 hW5 hk5 => ?_)
          have hg5 := (hk5.get _ (.inr rfl)).trans hg4
          have hpn5 := Iv.parts_n (bitsP 1 (if f.intra then 1 else 0)) (Iv.start.parts (bitsP 1 (if f.short then 1 else 0) ++ (if n = 2 then bitsP 1 (if f.side then 1 else 0) else [])))
          have hga := hF.2.2.2.2.1
          have e1 : IntKind.i64.wrap (f.gain - -64) = f.gain + 64 := by rw [IntWalk.i64_in _ (by omega)]; omega
          simp -implicitDefEqProofs only [aNil_ptr, simpS, Nat.reduceAdd, load_at hg5, e1]
          refine Ok.bnd (Wst.puts putBelow_ok hW5 (by omega) fun m6 hW6 hk6 => ?_)
          have hg6 := (hk6.get _ (.inr rfl)).trans hg5
          have hk36 := (hk4.trans hk5).trans hk6
          have hkm6 : ∀ b, K b → m6.get b = m.get b := fun b hb => (hk36.get b (.inl hb)).trans (hKm.get b hb)
          have hld6 : load? (some 5) (.ptr m.next 0) m6 = some (.agg (frameC f v)) := by rw [load_at' hg6]; rfl
          rw [← Iv.parts_append, ← Iv.parts_append, List.append_assoc] at hW6
          have hch13 : ∀ c ∈ f.chans, c.length ≤ 1000 := fun c hc => by have := (hF.2.2.2.2.2 c hc).1; omega
          have hl2 : f.chans.length ≤ 2 := by have := hF.1; have := hF.2.1; omega
          simp -implicitDefEqProofs only [simpS, Nat.reduceAdd, hld6]
          refine Ok.bnd (rows_ok (hv.keep (m' := m6) hkm6) (fun b hb => hW6.lt b (.inl hb)) hW6.bn (by omega) hch13 fun m7 u hS7 hu => ?_)
          have hW7 := hW6.same hS7
          have hlu := hu.len
          rw [List.length_map] at hlu
          simp -implicitDefEqProofs only [simpS, Nat.reduceAdd, hlu]
          have hpn7 := Iv.parts_n (headP f n) Iv.start
          have hlen6 := headP_le f n
          have hkm7 : ∀ b, K b → m7.get b = m.get b := fun b hb => (hS7.get (hW6.lt b (.inl hb))).trans (hkm6 b hb)
          refine put_l0_ok (K := fun b => (K b ∨ b = m.next) ∨ (m6.next ≤ b ∧ b < m7.next)) (p := p) (n := n) ((hv.keep hkm7).mono fun b hb => .inl (.inl hb)) (RowsR.mono hu fun b hb => .inr hb) ?_ hF ?_ (.inl (.inr rfl)) ((hS7.get (hW6.lt _ (.inr rfl))).trans hg6) hW7 fun m8 hk8 => ?_
          · rcases hA with hA | hA
            · exact .inl hA
            · rw [hva1 hA]
              exact .inr ⟨RowsR.mono (hp.keep hkm7) fun b hb => .inl (.inl hb), hA⟩
          · have hpe : (bitsP 1 (if f.short then 1 else 0) ++ ((if n = 2 then bitsP 1 (if f.side then 1 else 0) else []) ++ (bitsP 1 (if f.intra then 1 else 0) ++ (belowO (f.gain + 64) 97).getD []))) = headP f n := rfl
            rw [hpe]
            omega
          · rw [← Iv.parts_append]
            exact h1 ⟨hF, hA⟩ m8 (hKm.trans ((hk36.mono fun b hb => .inl hb).trans ((hS7.kept (fun b hb => hW6.lt b (.inl hb))).trans (hk8.mono fun b hb => .inl (.inl hb)))))
        have hb1 := bitsP_length 1 (if f.short then 1 else 0)
        have hpn3 := Iv.parts_n (bitsP 1 (if f.short then 1 else 0)) Iv.start
        have hb2 := bitsP_length 1 (if f.side then 1 else 0)
        simp -implicitDefEqProofs only [load_at hg3, simpS, Nat.reduceAdd]
        refine Ok.bnd (Wst.puts flag_ok hW (by omega) fun m4 hW4 hk4 => ?_)
        have hg4 := (hk4.get _ (.inr rfl)).trans hg3
        by_cases h5 : n = 2
        · rw [if_pos h5] at hj1
          simp -implicitDefEqProofs only [simpS, Nat.reduceAdd, h5, decide_true, if_true, load_at hg4]
          refine Ok.bnd (Wst.puts flag_ok hW4 (by omega) fun m5 hW5 hk5 => ?_)
          rw [← Iv.parts_append] at hW5
          exact hj1 m5 hW5 (hk4.trans hk5)
        · rw [if_neg h5, List.append_nil] at hj1
          simp -implicitDefEqProofs only [simpS, Nat.reduceAdd, h5, decide_false, Bool.false_eq_true, if_false]
          exact hj1 m4 hW4 hk4
      by_cases h3 : f.intra = true
      · simp -implicitDefEqProofs only [h3, Bool.not_true, Bool.false_eq_true, if_false]
        exact hgood (.inl h3)
      · have h3' : f.intra = false := by simpa using h3
        simp -implicitDefEqProofs only [h3', Bool.not_false, if_true]
        by_cases h4 : AheadP p n
        · have hva := hva1 h4
          subst hva
          have hne : aBin .eql [4] va .nilslice = some (.bool false) := by
            rcases hp with ⟨h | h, hnil⟩ | ⟨b, o, e, rfl, -⟩
            · have := h4.1; have := hF.1; rw [hnil] at *; simp at *; omega
            · have := h4.1; have := hF.1; rw [hnil] at *; simp at *; omega
            · rfl
          simp -implicitDefEqProofs only [hne, simpS, Nat.reduceAdd]
          exact hgood (.inr h4)
        · have hva := hva2 h4
          subst hva
          have hne : aBin .eql [4] .nilslice .nilslice = some (.bool true) := rfl
          simp -implicitDefEqProofs only [hne, simpS, Nat.reduceAdd]
          exact hbad (fun h => by rcases h.2 with h | h; exact h3 h; exact h4 h)
  refine Ok.bnd (ahead_ok hp1 hlen hlen2 (fun h => hmain vp (fun _ => rfl) (fun h' => absurd h h')) (fun h => hmain .nilslice (fun h' => absurd h' h) (fun _ => rfl)))
end SplA

/- The reader of frames: a frame, whole. -/
namespace SplA
open Go.Proofs.YtooogfnmhfocjaaDoor.Spl Go Go.Proofs
set_option maxRecDepth 100000
set_option linter.unusedVariables false
set_option linter.unusedSimpArgs false

theorem reader_frame_ok {K : Nat → Prop} {p : List (List Int)} {va : AV} {n : Nat} {i j : Nat} {q : Int} {d : Dec} {m : Mem} {Q : AV → Mem → Prop}
    (hn : n ≤ 2) (hA : (AheadP p n ∧ RowsR K m va p ∧ aBin .eql [4] va .nilslice = some (.bool false)) ∨ (¬ AheadP p n ∧ va = .nilslice)) (hK : ∀ b, K b → b < m.next ∧ ¬ Ij i j b) (h : RdrAt m i j q false d)
    (hq : ∀ m' u f d', frameT n q p d = some f → (f.intra = true ∨ AheadP p n) → RdrAt m' i j q false d' → Chg (Ij i j) m m' → ChansR (fun b => m.next ≤ b ∧ b < m'.next) m' u f.chans → Q (.agg (frameC f u)) m')
    (hq0 : ∀ m' cs d', cs.length = 5 → cs.all AV.one = true → (∀ f, frameT n q p d = some f → ¬ (f.intra = true ∨ AheadP p n)) → RdrAt m' i j q true d' → Chg (Ij i j) m m' → Q (.agg cs) m') :
    Ok (R fn_code_reader_frame [.ptr i 0, .int .i64 n, va]) m Q := by
  refine Ok.call (fun k => code_reader_frame_eq rfl k _ _ _) ?_
  have hIj : ∀ b, Ij i j b → b < m.next := by
    intro b hb
    have h1 := h.next
    have h2 := h.dec.next
    rcases hb with rfl | rfl <;> omega
  simp -implicitDefEqProofs only [code_reader_frame, ok_alloc]
  have hS1 := Same.alloc m (.cells T_api_Frame 0 [.bool false, .bool false, .bool false, .int .i64 0, .nilslice])
  have hg6 := Mem.get_alloc m (.cells T_api_Frame 0 [.bool false, .bool false, .bool false, .int .i64 0, .nilslice])
  have hnx1 : (m.alloc (.cells T_api_Frame 0 [.bool false, .bool false, .bool false, .int .i64 0, .nilslice])).next = m.next + 1 := rfl
  generalize m.alloc (.cells T_api_Frame 0 [.bool false, .bool false, .bool false, .int .i64 0, .nilslice]) = m1 at *
  have hS2 := Same.alloc m1 (.cells T_api_Frame 0 [.bool false, .bool false, .bool false, .int .i64 0, .nilslice])
  have hg7 := Mem.get_alloc m1 (.cells T_api_Frame 0 [.bool false, .bool false, .bool false, .int .i64 0, .nilslice])
  have hnx2 : (m1.alloc (.cells T_api_Frame 0 [.bool false, .bool false, .bool false, .int .i64 0, .nilslice])).next = m1.next + 1 := rfl
  generalize m1.alloc (.cells T_api_Frame 0 [.bool false, .bool false, .bool false, .int .i64 0, .nilslice]) = m2 at *
  have hS12 := hS1.trans hS2
  have h2 := h.same hS12
  have hg62 := (hS2.get (by omega)).trans hg6
  have hbm := h.bn
  have hb2 := hS12.base
  have hn67 : ∀ b, Ij i j b → b ≠ m.next ∧ b ≠ m1.next := fun b hb => by have := hIj b hb; omega
  -- a store into the frame
  have hF7 : ∀ {m4 : Mem} {cs : List AV}, Chg (fun b => Ij i j b ∨ b = m1.next) m2 m4 → Chg (fun b => Ij i j b ∨ b = m1.next) m2 (m4.set m1.next (.cells T_api_Frame 0 cs)) := fun hc => hc.trans ((Chg.set _ _ _).mono fun b _ h => (.inr h : Ij i j b ∨ b = m1.next)) (fun _ _ h => h)
  have hFi : ∀ {m4 m5 : Mem}, Chg (fun b => Ij i j b ∨ b = m1.next) m2 m4 → Chg (Ij i j) m4 m5 → Chg (fun b => Ij i j b ∨ b = m1.next) m2 m5 := fun hc hd => hc.trans (hd.mono fun b _ h => (.inl h : Ij i j b ∨ b = m1.next)) (fun _ _ h => h)
  have hR7 : ∀ {m4 : Mem} {cs : List AV} {bb : Bool} {dd : Dec}, RdrAt m4 i j q bb dd → RdrAt (m4.set m1.next (.cells T_api_Frame 0 cs)) i j q bb dd := fun hR => hR.chg (Chg.set _ _ _) (fun e => (hn67 i (.inl rfl)).2 e) (fun e => (hn67 j (.inr rfl)).2 e)
  have hbs : ∀ {m4 : Mem}, Chg (fun b => Ij i j b ∨ b = m1.next) m2 m4 → m4.base ≤ m1.next := fun hc => by rw [hc.base, hb2]; omega
  have hks : ∀ {m4 m5 : Mem} {cs : List AV}, Chg (fun b => Ij i j b ∨ b = m1.next) m2 m4 → m4.get m1.next = .cells T_api_Frame 0 cs → Chg (Ij i j) m4 m5 → m5.get m1.next = .cells T_api_Frame 0 cs := fun hc hg hd => (hd.get _ (by have := hc.next; omega) (fun e => (hn67 _ e).2 rfl)).trans hg
  obtain ⟨a, ha⟩ : ∃ a, a = gbitsV 1 d := ⟨_, rfl⟩
  obtain ⟨b, hb⟩ : ∃ b, b = (if (n : Int) = 2 then gbitsV 1 a.2 else (0, a.2)) := ⟨_, rfl⟩
  obtain ⟨c, hc⟩ : ∃ c, c = gbitsV 1 b.2 := ⟨_, rfl⟩
  obtain ⟨g, hg⟩ : ∃ g, g = gbelowV 97 c.2 := ⟨_, rfl⟩
  have hfT : frameT n q p d = if g.1.2 = true then (takeCs q (decide (c.1 = 1)) p n 0 g.2).map (fun x => (⟨decide (a.1 = 1), decide (b.1 = 1), decide (c.1 = 1), (g.1.1 : Int) - 64, x.1⟩ : FrameD)) else none := by
    subst ha hb hc hg
    rfl
  have hglt := gbelowV_lt 97 c.2
  rw [← hg] at hglt
  have hj0 : ∀ m4, RdrAt m4 i j q false b.2 → m4.get m1.next = .cells T_api_Frame 0 [.bool (decide (a.1 = 1)), .bool (decide (b.1 = 1)), .bool false, .int .i64 0, .nilslice] → Chg (fun b => Ij i j b ∨ b = m1.next) m2 m4 →
      Ok (fun k => code_reader_frame_j0 (fcall Tryd.prog ext1 k) k (.ptr i 0) (.int .i64 n) va (.ptr m.next 0) (.ptr m1.next 0)) m4 Q := by
    intro m4 hR4 hg4 hc4
    simp -implicitDefEqProofs only [code_reader_frame_j0]
    refine Ok.bnd (rflag_ok hR4 fun m5 hR5 hc5 => ?_)
    rw [← hc] at hR5 ⊢
    have hg5 := hks hc4 hg4 hc5
    have hc5' := hFi hc4 hc5
    have hst5 := fun (k : Nat → AV → M AV) => ok_store (k := k) (Q := Q) (o := 2) (v := .bool (decide (c.1 = 1))) hg5 (hbs hc5') (Nat.zero_le _) (by simp) (by simp)
    simp -implicitDefEqProofs only [simpS, Nat.reduceAdd, hst5]
    have hR5' := hR7 (cs := [.bool (decide (a.1 = 1)), .bool (decide (b.1 = 1)), .bool (decide (c.1 = 1)), .int .i64 0, .nilslice]) hR5
    have hg5' := Mem.get_set m5 m1.next (.cells T_api_Frame 0 [.bool (decide (a.1 = 1)), .bool (decide (b.1 = 1)), .bool (decide (c.1 = 1)), .int .i64 0, .nilslice])
    have hc5'' := hF7 (cs := [.bool (decide (a.1 = 1)), .bool (decide (b.1 = 1)), .bool (decide (c.1 = 1)), .int .i64 0, .nilslice]) hc5'
    generalize m5.set m1.next (.cells T_api_Frame 0 [.bool (decide (a.1 = 1)), .bool (decide (b.1 = 1)), .bool (decide (c.1 = 1)), .int .i64 0, .nilslice]) = m6 at *
    refine Ok.bnd (rbelow_ok (n := 97) hR5' fun m7 hR7' hc7 => ?_)
    rw [← hg, Bool.false_or] at hR7'
    rw [← hg]
    have hg7' := hks hc5'' hg5' hc7
    have hc7' := hFi hc5'' hc7
    have e1 : IntKind.i64.wrap ((g.1.1 : Int) + -64) = (g.1.1 : Int) - 64 := by rw [IntWalk.i64_in _ (by omega)]; omega
    have hst7 := fun (k : Nat → AV → M AV) => ok_store (k := k) (Q := Q) (o := 3) (v := .int .i64 ((g.1.1 : Int) - 64)) hg7' (hbs hc7') (Nat.zero_le _) (by simp) (by simp)
    simp -implicitDefEqProofs only [simpS, Nat.reduceAdd, e1, hst7]
    have hR8 := hR7 (cs := [.bool (decide (a.1 = 1)), .bool (decide (b.1 = 1)), .bool (decide (c.1 = 1)), .int .i64 ((g.1.1 : Int) - 64), .nilslice]) hR7'
    have hg8 := Mem.get_set m7 m1.next (.cells T_api_Frame 0 [.bool (decide (a.1 = 1)), .bool (decide (b.1 = 1)), .bool (decide (c.1 = 1)), .int .i64 ((g.1.1 : Int) - 64), .nilslice])
    have hc8 := hF7 (cs := [.bool (decide (a.1 = 1)), .bool (decide (b.1 = 1)), .bool (decide (c.1 = 1)), .int .i64 ((g.1.1 : Int) - 64), .nilslice]) hc7'
    generalize m7.set m1.next (.cells T_api_Frame 0 [.bool (decide (a.1 = 1)), .bool (decide (b.1 = 1)), .bool (decide (c.1 = 1)), .int .i64 ((g.1.1 : Int) - 64), .nilslice]) = m8 at *
    have hst8 := fun (x : Bool) (k : Nat → AV → M AV) => ok_store (k := k) (Q := Q) (o := 2) (v := .bool x) hR8.get hR8.base (Nat.zero_le _) (by simp) (by simp)
    -- the loop
    have hj1 : ∀ x : Bool, (x = true → ∀ f, frameT n q p d = some f → ¬ (f.intra = true ∨ AheadP p n)) → (x = false → g.1.2 = true ∧ (decide (c.1 = 1) = true ∨ AheadP p n)) → Ok (fun k => code_reader_frame_j1 (fcall Tryd.prog ext1 k) k (.ptr i 0) (.int .i64 n) va (.ptr m.next 0) (.ptr m1.next 0)) (m8.set i (.cells T_code_reader 0 [.ptr j 0, .int .i64 q, .bool x])) Q := by
      intro x hx1 hx0
      have hR9 := hR8.turn x
      have hcs := Chg.set m8 i (.cells T_code_reader 0 [.ptr j 0, .int .i64 q, .bool x])
      have hg9 := (hcs.get m1.next (by have := hc8.next; omega) (fun e => (hn67 i (.inl rfl)).2 e.symm)).trans hg8
      have hc9 := hFi hc8 (ijI (j := j) hcs)
      generalize m8.set i (.cells T_code_reader 0 [.ptr j 0, .int .i64 q, .bool x]) = m9 at *
      have hn9 := hc9.next
      have hg69 := (hc9.get m.next (by omega) (fun hF => by rcases hF with hF | hF; exact (hn67 _ hF).1 rfl; omega)).trans hg62
      have hkm : ∀ b, K b → m9.get b = m.get b := fun b hb => (hc9.get b (by have := (hK b hb).1; omega) (fun hF => by rcases hF with hF | hF; exact (hK b hb).2 hF; have := (hK b hb).1; omega)).trans (hS12.get (hK b hb).1)
      have hFF : ∀ m', Chg (fun b => Ij i j b ∨ b = m1.next ∨ b = m.next) m9 m' → Chg (Ij i j) m m' := fun m' hc => by
        have : Chg (fun b => Ij i j b ∨ b = m1.next ∨ b = m.next) m m' := (hS12.mono fun _ _ h => h.elim).trans ((hc9.mono fun _ _ h => by rcases h with h | h; exact .inl h; exact .inr (.inl h)).trans hc (fun _ _ h => h)) (fun _ _ h => h)
        exact this.mono fun b hb h => by
          rcases h with h | h | h
          · exact h
          · omega
          · omega
      simp -implicitDefEqProofs only [code_reader_frame_j1]
      refine reader_l0_ok (K := fun b => K b) (p := p) (intra := decide (c.1 = 1)) hn ?_ (fun b hb => ⟨by have := (hK b hb).1; omega, (hK b hb).2, by have := (hK b hb).1; omega⟩) hR9 hg9 ⟨_, rfl, hg69⟩ ⟨hbs hc9, by omega, fun e => (hn67 _ e).2 rfl⟩ ⟨by rw [hc9.base, hb2]; omega, by omega, fun e => (hn67 _ e).1 rfl, by omega⟩ rfl (fun m' u cs d' hx ht hR' hc' hu => ?_) (fun m' u d' hu hd hR' hc' => ?_)
      · by_cases hci : c.1 = 1
        · exact .inl (decide_eq_true hci)
        · rcases hA with ⟨h1, h3, -⟩ | ⟨h1, -⟩
          · exact .inr (.inl ⟨h1, h3.keep hkm⟩)
          · cases x with
            | true => exact .inr (.inr rfl)
            | false =>
              rcases (hx0 rfl).2 with h' | h'
              · exact .inl h'
              · exact absurd h' h1
      · obtain ⟨k1, k2⟩ := hx0 hx
        have hfr : frameT n q p d = some ⟨decide (a.1 = 1), decide (b.1 = 1), decide (c.1 = 1), (g.1.1 : Int) - 64, cs⟩ := by
          rw [hfT, if_pos k1, ht]; rfl
        exact hq m' u _ d' hfr k2 hR' (hFF m' hc') (ChansR.mono hu fun b hb => ⟨by omega, hb.2⟩)
      · refine hq0 m' _ d' rfl (by simp [hu]) (fun f hf => ?_) hR' (hFF m' hc')
        rcases hd with hd | hd
        · exact hx1 hd f hf
        · rw [hfT, hd] at hf
          simp at hf
    have hgb : g.1.2 = false → ∀ f, frameT n q p d = some f → ¬ (f.intra = true ∨ AheadP p n) := fun hg2 f hf => by
      rw [hfT, hg2] at hf
      simp at hf
    simp -implicitDefEqProofs only [simpS, Nat.reduceAdd, load_at hR8.get]
    cases hg2 : g.1.2 with
    | false =>
      simp -implicitDefEqProofs only [Bool.not_false, if_true, hst8]
      exact hj1 true (fun _ => hgb hg2) (fun h => by cases h)
    | true =>
      simp -implicitDefEqProofs only [Bool.not_true, Bool.false_eq_true, if_false, load_at hg8, simpS, Nat.reduceAdd]
      by_cases hci : c.1 = 1
      · simp -implicitDefEqProofs only [hci, decide_true, Bool.not_true, Bool.false_eq_true, if_false, hst8]
        have := hj1 false (fun h => by cases h) (fun _ => ⟨hg2, .inl (decide_eq_true hci)⟩)
        exact this
      · simp -implicitDefEqProofs only [hci, decide_false, Bool.not_false, if_true]
        rcases hA with ⟨h1, h3, h4⟩ | ⟨h1, h4⟩
        · simp -implicitDefEqProofs only [h4, simpS, Nat.reduceAdd, hst8]
          exact hj1 false (fun h => by cases h) (fun _ => ⟨hg2, .inr h1⟩)
        · subst h4
          have h5 : aBin .eql [4] .nilslice .nilslice = some (.bool true) := rfl
          simp -implicitDefEqProofs only [h5, simpS, Nat.reduceAdd, hst8]
          refine hj1 true (fun _ f hf => ?_) (fun h => by cases h)
          rw [hfT, if_pos hg2] at hf
          obtain ⟨x, -, rfl⟩ := Option.map_eq_some_iff.1 hf
          exact fun h => by
            rcases h with h | h
            · exact hci (of_decide_eq_true h)
            · exact h1 h
  refine Ok.bnd (rflag_ok h2 fun m3 hR3 hc3 => ?_)
  rw [← ha] at hR3 ⊢
  have hg3 := hks (Chg.refl _ _) hg7 hc3
  have hc3' := hFi (Chg.refl _ _) hc3
  have hst3 := fun (k : Nat → AV → M AV) => ok_store (k := k) (Q := Q) (o := 0) (v := .bool (decide (a.1 = 1))) hg3 (hbs hc3') (Nat.zero_le _) (by simp) (by simp)
  simp -implicitDefEqProofs only [simpS, Nat.reduceAdd, hst3]
  have hR4 := hR7 (cs := [.bool (decide (a.1 = 1)), .bool false, .bool false, .int .i64 0, .nilslice]) hR3
  have hg4 := Mem.get_set m3 m1.next (.cells T_api_Frame 0 [.bool (decide (a.1 = 1)), .bool false, .bool false, .int .i64 0, .nilslice])
  have hc4 := hF7 (cs := [.bool (decide (a.1 = 1)), .bool false, .bool false, .int .i64 0, .nilslice]) hc3'
  generalize m3.set m1.next (.cells T_api_Frame 0 [.bool (decide (a.1 = 1)), .bool false, .bool false, .int .i64 0, .nilslice]) = m4 at *
  by_cases h5 : (n : Int) = 2
  · rw [if_pos h5] at hb
    simp -implicitDefEqProofs only [h5, decide_true, if_true]
    refine Ok.bnd (rflag_ok hR4 fun m5 hR5 hc5 => ?_)
    rw [← hb] at hR5 ⊢
    have hg5 := hks hc4 hg4 hc5
    have hc5' := hFi hc4 hc5
    have hst5 := fun (k : Nat → AV → M AV) => ok_store (k := k) (Q := Q) (o := 1) (v := .bool (decide (b.1 = 1))) hg5 (hbs hc5') (Nat.zero_le _) (by simp) (by simp)
    simp -implicitDefEqProofs only [simpS, Nat.reduceAdd, hst5]
    rw [← h5]
    exact hj0 _ (hR7 hR5) (Mem.get_set _ _ _) (hF7 hc5')
  · rw [if_neg h5] at hb
    have e1 : (b.1 = 1) = False := by rw [hb]; simp
    have e2 : b.2 = a.2 := by rw [hb]
    simp -implicitDefEqProofs only [h5, decide_false, Bool.false_eq_true, if_false]
    refine hj0 m4 (by rw [e2]; exact hR4) ?_ hc4
    rw [hg4]
    simp [e1]
end SplA

/- Get: the frame of octets. -/
namespace SplA
open Go.Proofs.YtooogfnmhfocjaaDoor.Spl Go Go.Proofs
set_option maxRecDepth 100000
set_option linter.unusedVariables false
set_option linter.unusedSimpArgs false

theorem chansP_intra {q : Int} {f : FrameD} (h : f.intra = true) (p p' : List (List Int)) : ∀ (l : List (List BandD)) (i : Nat), chansP q f p i l = chansP q f p' i l
  | [], _ => rfl
  | c :: l, i => by
    unfold chansP lastN
    rw [h, if_pos rfl, if_pos rfl, chansP_intra h p p' l]
theorem frameP_intra {q n : Int} {f : FrameD} (h : f.intra = true) (p p' : List (List Int)) : frameP f n q p = frameP f n q p' := by
  unfold frameP
  rw [chansP_intra h p p']
/-- Octets that tell a frame. -/
def GetP (s : List UInt8) (n q : Int) (p : List (List Int)) (f : FrameD) : Prop := frameT n q p (Dec.start s) = some f ∧ PutP f n q p ∧ (Iv.start.parts (frameP f n q p)).ends = s
def getE (s : List UInt8) (n q : Int) : Int := if ¬ ((1 ≤ n ∧ n ≤ 2) ∧ 0 ≤ q ∧ q ≤ 10) then 1 else if 1024 < s.length then 3 else 0
def zeroF : List AV := [.bool false, .bool false, .bool false, .int .i64 0, .nilslice]

theorem get_ok {K : Nat → Prop} {s : List UInt8} {p : List (List Int)} {n q : Int} {m : Mem} {vp : AV} {Q : AV → Mem → Prop} (hK : ∀ b, K b → b < m.next) (hbn : m.base ≤ m.next) (hp : RowsR K m vp p) (hlen : p.length ≤ 1000) (hlen2 : ∀ r ∈ p, r.length ≤ 1000)
    (hq : ∀ m' u f, getE s n q = 0 → GetP s n q p f → Same m m' → ChansR (fun b => m.next ≤ b ∧ b < m'.next) m' u f.chans → Q (.tup [.agg (frameC f u), .int .i64 0]) m')
    (hq1 : ∀ m', getE s n q ≠ 0 → Same m m' → Q (.tup [.agg zeroF, .int .i64 (getE s n q)]) m')
    (hq4 : ∀ m', getE s n q = 0 → (∀ f, ¬ GetP s n q p f) → Same m m' → Q (.tup [.agg zeroF, .int .i64 4]) m') : Ok (R fn_code_Get [.str (bs s), .int .i64 n, .int .i64 q, vp]) m Q := by
  refine Ok.call (fun k => code_Get_eq rfl k _ _ _ _) ?_
  simp -implicitDefEqProofs only [code_Get, ok_alloc]
  have hS1 := Same.alloc m (.cells T_api_Frame 0 zeroF)
  have hg8 := Mem.get_alloc m (.cells T_api_Frame 0 zeroF)
  have hnx1 : (m.alloc (.cells T_api_Frame 0 zeroF)).next = m.next + 1 := rfl
  have hz : m.alloc (.cells T_api_Frame 0 [.bool false, .bool false, .bool false, .int .i64 0, .nilslice]) = m.alloc (.cells T_api_Frame 0 zeroF) := rfl
  rw [hz]
  generalize m.alloc (.cells T_api_Frame 0 zeroF) = m1 at *
  have hb1 := hS1.base
  have hf0 : (aFill (fun i => [(0, 1), (1, 1), (2, 1), (3, 1), (4, 1)][i]?) [.bool false, .bool false, .bool false, .int .i64 0, .nilslice] []).map AV.agg = some (.agg zeroF) := rfl
  -- what is told at the end
  have hout : ∀ (m' : Mem) (cs : List AV) (e : Int), Same m1 m' → cs.length = 5 → cs.all AV.one = true → Q (.tup [.agg cs, .int .i64 e]) (m'.set m.next (.cells T_api_Frame 0 cs)) → Ok (fun k => bnd (store (some 5) (.ptr m.next 0) (.agg cs)) fun u => bnd (load (some 5) (.ptr m.next 0)) fun r => ret (.tup [r, .int .i64 e])) m' Q := by
    intro m' cs e hS hl ho hQ
    have hg := (hS.get (by omega)).trans hg8
    have hst := fun (k : Nat → AV → M AV) => ok_storeAll (i := m.next) (k := k) (Q := Q) (vs := cs) (n := 5) hg (by rw [hS.base, hb1]; exact hbn) hl rfl ho
    have l8 : load? (some 5) (.ptr m.next 0) (m'.set m.next (.cells T_api_Frame 0 cs)) = some (.agg cs) := by
      rw [load_at' (Mem.get_set _ _ _), if_pos (by omega), List.drop_zero, List.take_of_length_le (by omega)]
    simp -implicitDefEqProofs only [hst, simpS, Nat.reduceAdd, l8]
    exact hQ
  have hSout : ∀ {m' : Mem} {cs : List AV}, Same m1 m' → Same m (m'.set m.next (.cells T_api_Frame 0 cs)) := fun hS => (hS1.trans hS).own (Nat.le_refl _) (Chg.set _ _ _)
  have hzero : ∀ m', Same m1 m' → ∀ e : Int, Q (.tup [.agg zeroF, .int .i64 e]) (m'.set m.next (.cells T_api_Frame 0 zeroF)) → Ok (fun k => bnd (store (some 5) (.ptr m.next 0) (.agg zeroF)) fun u => bnd (load (some 5) (.ptr m.next 0)) fun r => ret (.tup [r, .int .i64 e])) m' Q := fun m' hS e hQ => hout m' zeroF e hS rfl rfl hQ
  have hbad : ¬ ((1 ≤ n ∧ n ≤ 2) ∧ 0 ≤ q ∧ q ≤ 10) → Ok (fun k => code_Get_j0 (fcall Tryd.prog ext1 k) k (.str (bs s)) (.int .i64 n) (.int .i64 q) vp (.ptr m.next 0) (.bool true)) m1 Q := by
    intro h
    have hE : getE s n q = 1 := if_pos h
    rw [hE] at hq1
    simp -implicitDefEqProofs only [code_Get_j0, ok_mc, if_true, hf0, lp_some']
    exact hzero m1 (Same.refl _) 1 (hq1 _ (by decide) (hSout (Same.refl _)))
  have hgood : ((1 ≤ n ∧ n ≤ 2) ∧ 0 ≤ q ∧ q ≤ 10) → Ok (fun k => code_Get_j0 (fcall Tryd.prog ext1 k) k (.str (bs s)) (.int .i64 n) (.int .i64 q) vp (.ptr m.next 0) (.bool false)) m1 Q := by
    intro hnq
    by_cases hs : 1024 < s.length
    · have hE : getE s n q = 3 := by unfold getE; rw [if_neg (fun h => h hnq), if_pos hs]
      rw [hE] at hq1
      have d1 : (1024 : Int) < (s.length : Int) := by omega
      simp -implicitDefEqProofs only [code_Get_j0, simpS, Nat.reduceAdd, Bool.false_eq_true, if_false, d1, decide_true, if_true, hf0]
      exact hzero m1 (Same.refl _) 3 (hq1 _ (by decide) (hSout (Same.refl _)))
    have hE : getE s n q = 0 := by unfold getE; rw [if_neg (fun h => h hnq), if_neg hs]
    have d1 : ¬ (1024 : Int) < (s.length : Int) := by omega
    simp -implicitDefEqProofs only [code_Get_j0, simpS, Nat.reduceAdd, Bool.false_eq_true, if_false, d1, decide_false]
    have hp1 := hp.keep (m' := m1) (fun b hb => hS1.get (hK b hb))
    obtain ⟨n, rfl⟩ : ∃ k : Nat, n = k := ⟨n.toNat, by omega⟩
    have hn2 : n ≤ 2 := by omega
    -- behind what is ahead
    have hmain : ∀ (va : AV) (pa : List (List Int)), RowsR K m1 va pa → pa.length ≤ 1000 → (∀ r ∈ pa, r.length ≤ 1000) → ((AheadP p n ∧ RowsR K m1 va p ∧ aBin .eql [4] va .nilslice = some (.bool false)) ∨ (¬ AheadP p n ∧ va = .nilslice)) →
        (∀ f, PutP f n q pa ↔ PutP f n q p) → (∀ f, PutP f n q p → frameP f n q pa = frameP f n q p) →
        Ok (fun k => bnd (fcall Tryd.prog ext1 k fn_rc_New [.str (bs s)]) fun v39 => lp ((aFill (fun i => [(0, 1), (1, 1), (2, 1)][i]?) [.nilptr, .int .i64 0, .bool false] [(0, v39), (1, .int .i64 q)]).map .agg) fun v41 => bnd (box T_code_reader v41) fun v42 => bnd (fcall Tryd.prog ext1 k fn_code_reader_frame [v42, .int .i64 n, va]) fun v46 => bnd (alloc T_api_Frame [.bool false, .bool false, .bool false, .int .i64 0, .nilslice]) fun v11 => bnd (store (some 5) v11 v46) fun u_2 => lp (aNil v42) fun v48 => lp (aOff 2 v48) fun v49 => bnd (load none v49) fun v50 => mc v50
          (lp ((aFill (fun i => [(0, 1), (1, 1), (2, 1), (3, 1), (4, 1)][i]?) [.bool false, .bool false, .bool false, .int .i64 0, .nilslice] []).map .agg) fun v51 => bnd (store (some 5) (.ptr m.next 0) v51) fun u_3 => bnd (load (some 5) (.ptr m.next 0)) fun r_2 => ret (.tup [r_2, (.int .i64 4)]))
          (bnd (load (some 5) v11) fun v53 => bnd (fcall Tryd.prog ext1 k fn_code_Put [v53, .int .i64 n, .int .i64 q, va]) fun v57 => lp (aExt 0 v57) fun v58 => lp (aExt 1 v57) fun v59 => lp (aBin .neq [6] v59 (.int .i64 0)) fun v61 => mc v61 (code_Get_j1 (fcall Tryd.prog ext1 k) k (.ptr m.next 0) v11 (.bool true)) (lp (aBin .neq [7] v58 (.str (bs s))) fun v65 => code_Get_j1 (fcall Tryd.prog ext1 k) k (.ptr m.next 0) v11 v65))) m1 Q := by
      intro va pa hpa hla hla2 hA hPP hPF
      have hbn1 : m1.base ≤ m1.next := hS1.bn hbn
      refine Ok.bnd (new_ok hbn1 ?_)
      have hS2 := Same.alloc m1 (decObj false 0 (Dec.start s).code (Dec.start s).l)
      have hgd := Mem.get_alloc m1 (decObj false 0 (Dec.start s).code (Dec.start s).l)
      have hnx2 : (m1.alloc (decObj false 0 (Dec.start s).code (Dec.start s).l)).next = m1.next + 1 := rfl
      generalize m1.alloc (decObj false 0 (Dec.start s).code (Dec.start s).l) = m2 at *
      have hf1 : (aFill (fun i => [(0, 1), (1, 1), (2, 1)][i]?) [.nilptr, .int .i64 0, .bool false] [(0, .ptr m1.next 0), (1, .int .i64 q)]).map AV.agg = some (.agg [.ptr m1.next 0, .int .i64 q, .bool false]) := rfl
      simp -implicitDefEqProofs only [hf1, lp_some', ok_box]
      have hS3 := Same.alloc m2 (.cells T_code_reader 0 [.ptr m1.next 0, .int .i64 q, .bool false])
      have hgr := Mem.get_alloc m2 (.cells T_code_reader 0 [.ptr m1.next 0, .int .i64 q, .bool false])
      have hnx3 : (m2.alloc (.cells T_code_reader 0 [.ptr m1.next 0, .int .i64 q, .bool false])).next = m2.next + 1 := rfl
      generalize m2.alloc (.cells T_code_reader 0 [.ptr m1.next 0, .int .i64 q, .bool false]) = m3 at *
      have hS13 := hS2.trans hS3
      have hb3 := hS13.base
      have hb2 := hS2.base
      have hR : RdrAt m3 m2.next m1.next q false (Dec.start s) := ⟨hgr, by omega, by omega, by omega, ⟨by omega, by omega, ⟨false, 0, (hS3.get (by omega)).trans hgd, by simp [rngOf, start_rng]⟩, start_fits s⟩⟩
      have hK3 : ∀ b, K b → b < m3.next ∧ ¬ Ij m2.next m1.next b := fun b hb => by
        have := hK b hb
        exact ⟨by omega, fun h => by rcases h with h | h <;> omega⟩
      have hA3 : (AheadP p n ∧ RowsR K m3 va p ∧ aBin .eql [4] va .nilslice = some (.bool false)) ∨ (¬ AheadP p n ∧ va = .nilslice) := by
        rcases hA with ⟨h1, h2, h3⟩ | h
        · exact .inl ⟨h1, h2.keep (fun b hb => hS13.get (by have := hK b hb; omega)), h3⟩
        · exact .inr h
      have hI13 : ∀ {m' : Mem}, Chg (Ij m2.next m1.next) m3 m' → Same m1 m' := fun hc => ⟨hc.base.trans hS13.base, by have := hc.next; omega, fun b hb _ => (hc.get b (by omega) (fun h => by rcases h with h | h <;> omega)).trans (hS13.get hb)⟩
      -- behind the frame: it is kept
      have hkeep : ∀ (m4 : Mem) (cs : List AV) (bad : Bool) (d' : Dec), cs.length = 5 → cs.all AV.one = true → RdrAt m4 m2.next m1.next q bad d' → Chg (Ij m2.next m1.next) m3 m4 →
          Same m1 (m4.alloc (.cells T_api_Frame 0 cs)) ∧ RdrAt (m4.alloc (.cells T_api_Frame 0 cs)) m2.next m1.next q bad d' ∧ load? (some 5) (.ptr m4.next 0) (m4.alloc (.cells T_api_Frame 0 cs)) = some (.agg cs) ∧ ∀ k : Nat → AV → M AV, Ok (fun n => bnd (store (some 5) (.ptr m4.next 0) (.agg cs)) (k n)) (m4.alloc (.cells T_api_Frame 0 [.bool false, .bool false, .bool false, .int .i64 0, .nilslice])) Q ↔ Ok (fun n => k n .undef) (m4.alloc (.cells T_api_Frame 0 cs)) Q := by
        intro m4 cs bad d' hl ho hR4 hc4
        refine ⟨(hI13 hc4).trans (Same.alloc _ _), hR4.same (Same.alloc _ _), ?_, fun k => ?_⟩
        · rw [load_at' (Mem.get_alloc _ _), if_pos (by omega), List.drop_zero, List.take_of_length_le (by omega)]
        · rw [ok_storeAll (Mem.get_alloc m4 _) hR4.bn hl rfl ho, Mem.alloc_set]
      have hform : ∀ f, GetP s n q p f → frameT n q p (Dec.start s) = some f := fun f h => h.1
      refine Ok.bnd (reader_frame_ok hn2 hA3 hK3 hR (fun m4 u f d' hfr hin hR4 hc4 hu => ?_) (fun m4 cs d' hl ho hfr hR4 hc4 => ?_))
      · obtain ⟨hS5, hR5, l11, hst⟩ := hkeep m4 (frameC f u) false d' rfl (by simp [frameC, SlR.one hu]) hR4 hc4
        have hS45 := Same.alloc m4 (.cells T_api_Frame 0 (frameC f u))
        have hnx5 : (m4.alloc (.cells T_api_Frame 0 (frameC f u))).next = m4.next + 1 := rfl
        simp -implicitDefEqProofs only [ok_alloc, hst]
        generalize m4.alloc (.cells T_api_Frame 0 (frameC f u)) = m5 at *
        have hn4 := hc4.next
        have hu5 : ChansR (fun b => b < m5.next) m5 u f.chans := (hu.keep (m' := m5) fun b hb => hS45.get hb.2).mono fun b hb => by omega
        have hpa5 : RowsR (fun b => b < m5.next) m5 va pa := RowsR.mono (hpa.keep (m' := m5) fun b hb => hS5.get (by have := hK b hb; omega)) fun b hb => by have := hK b hb; omega
        simp -implicitDefEqProofs only [simpS, Nat.reduceAdd, load_at hR5.get, Bool.false_eq_true, if_false, l11]
        have hno : ∀ m6, Same m1 m6 → (∀ g, ¬ GetP s n q p g) → Ok (fun k => code_Get_j1 (fcall Tryd.prog ext1 k) k (.ptr m.next 0) (.ptr m4.next 0) (.bool true)) m6 Q := by
          intro m6 hS6 h
          simp -implicitDefEqProofs only [code_Get_j1, ok_mc, if_true, hf0, lp_some']
          exact hzero m6 hS6 4 (hq4 _ hE h (hSout hS6))
        have huniq : ∀ g, frameT n q p (Dec.start s) = some g → g = f := fun g hg => by rw [hfr] at hg; exact (Option.some.inj hg).symm
        refine Ok.bnd (put_ok (K := fun b => b < m5.next) (p := pa) hu5 (fun b hb => hb) hR5.bn hpa5 hla hla2 (fun hP m6 hk => ?_) (fun hP m6 hk => ?_))
        · have hP' := (hPP f).1 hP
          have hS6 : Same m1 m6 := ⟨hk.base.trans hS5.base, Nat.le_trans hS5.next hk.next, fun b hb _ => (hk.get b (Nat.lt_of_lt_of_le hb hS5.next)).trans (hS5.get hb)⟩
          rw [hPF f hP']
          simp -implicitDefEqProofs only [aExt, simpS, Nat.reduceAdd, aBin_neq, ne_eq, not_true_eq_false, decide_false, Bool.false_eq_true, if_false]
          by_cases hse : (Iv.start.parts (frameP f n q p)).ends = s
          · have hG : GetP s n q p f := ⟨hfr, hP', hse⟩
            have l6 : load? (some 5) (.ptr m4.next 0) m6 = some (.agg (frameC f u)) := (load_keep (hk.get m4.next (by omega))).trans l11
            simp -implicitDefEqProofs only [hse, decide_true, Bool.not_true, code_Get_j1, simpS, Nat.reduceAdd, Bool.false_eq_true, if_false, l6]
            refine hout m6 _ 0 hS6 rfl (by simp [frameC, SlR.one hu]) (hq _ u f hE hG (hSout hS6) ?_)
            have hcs := Chg.set m6 m.next (.cells T_api_Frame 0 (frameC f u))
            have hnn : (m6.set m.next (.cells T_api_Frame 0 (frameC f u))).next = m6.next := rfl
            have hk6 := hk.next
            exact (hu.keep (m' := m6.set m.next (.cells T_api_Frame 0 (frameC f u))) fun b hb => (hcs.get b (by omega) (by omega)).trans ((hk.get b (by omega)).trans (hS45.get hb.2))).mono fun b hb => ⟨by omega, by omega⟩
          · simp -implicitDefEqProofs only [hse, decide_false, Bool.not_false]
            exact hno m6 hS6 (fun g hg => hse (by have := huniq g hg.1; subst this; exact hg.2.2))
        · have hP' : ¬ PutP f n q p := fun h => hP ((hPP f).2 h)
          have hS6 : Same m1 m6 := ⟨hk.base.trans hS5.base, Nat.le_trans hS5.next hk.next, fun b hb _ => (hk.get b (Nat.lt_of_lt_of_le hb hS5.next)).trans (hS5.get hb)⟩
          have d2 : decide ((1 : Int) ≠ 0) = true := by decide
          simp -implicitDefEqProofs only [aExt, simpS, Nat.reduceAdd, d2, if_true]
          exact hno m6 hS6 (fun g hg => hP' (by have := huniq g hg.1; subst this; exact hg.2.1))
      · obtain ⟨hS5, hR5, l11, hst⟩ := hkeep m4 cs true d' hl ho hR4 hc4
        simp -implicitDefEqProofs only [ok_alloc, hst]
        generalize m4.alloc (.cells T_api_Frame 0 cs) = m5 at *
        simp -implicitDefEqProofs only [simpS, Nat.reduceAdd, load_at hR5.get, if_true, hf0]
        exact hzero m5 hS5 4 (hq4 _ hE (fun g hg => hfr g hg.1 hg.2.1.2) (hSout hS5))
    refine Ok.bnd (ahead_ok hp1 hlen hlen2 (fun h => ?_) (fun h => ?_))
    · refine hmain vp p hp1 hlen hlen2 (.inl ⟨h, hp1, ?_⟩) (fun f => Iff.rfl) (fun f _ => rfl)
      rcases hp1 with ⟨h' | h', hnil⟩ | ⟨b, o, e, rfl, -⟩
      · have := h.1; rw [hnil] at this; simp at this; omega
      · have := h.1; rw [hnil] at this; simp at this; omega
      · rfl
    · refine hmain .nilslice [] (.inl ⟨.inl rfl, rfl⟩) (Nat.zero_le _) (fun r hr => by simp at hr) (.inr ⟨h, rfl⟩) (fun f => ?_) (fun f hf => ?_)
      · refine ⟨fun hP => ⟨hP.1, hP.2.imp id fun h' => ?_⟩, fun hP => ⟨hP.1, hP.2.imp id fun h' => absurd h' h⟩⟩
        have := h'.1
        simp at this
        omega
      · exact frameP_intra (hf.2.resolve_right h) _ _
  by_cases h1 : n < 1
  · simp -implicitDefEqProofs only [simpS, Nat.reduceAdd, h1, decide_true, if_true]; exact hbad (by omega)
  by_cases h2 : 2 < n
  · simp -implicitDefEqProofs only [simpS, Nat.reduceAdd, h1, h2, decide_true, decide_false, Bool.false_eq_true, if_false, if_true]; exact hbad (by omega)
  by_cases h3 : q < 0
  · simp -implicitDefEqProofs only [simpS, Nat.reduceAdd, h1, h2, h3, decide_true, decide_false, Bool.false_eq_true, if_false, if_true]; exact hbad (by omega)
  by_cases h4 : 10 < q
  · simp -implicitDefEqProofs only [simpS, Nat.reduceAdd, h1, h2, h3, h4, decide_true, decide_false, Bool.false_eq_true, if_false]; exact hbad (by omega)
  · simp -implicitDefEqProofs only [simpS, Nat.reduceAdd, h1, h2, h3, h4, decide_false, Bool.false_eq_true, if_false]; exact hgood (by omega)
end SplA

/- Frames that are one. -/
namespace SplA
open Go.Proofs.YtooogfnmhfocjaaDoor.Spl Go Go.Proofs
set_option maxRecDepth 100000
set_option linter.unusedVariables false
set_option linter.unusedSimpArgs false

theorem eqlBool (a b : Bool) : aBin .eql [1] (.bool a) (.bool b) = some (.bool (a == b)) := rfl
theorem neqBool (a b : Bool) : aBin .neq [1] (.bool a) (.bool b) = some (.bool !(a == b)) := rfl
theorem same01_ok {K L : Nat → Prop} {l : List Int} {u v : AV} {m : Mem} {Q : AV → Mem → Prop} (hu : IntsR K m u l) (hv : IntsR L m v l) (hl : l.length ≤ 1000) (hq : Q (.bool true) m) : Ok (R fn_ref01_Same [u, v]) m Q := by
  refine Ok.call (fun n => ref01_Same_eq rfl n _ _) ?_
  simp -implicitDefEqProofs only [ref01_Same, simpS, Nat.reduceAdd, hu.len, hv.len, ne_eq, not_true_eq_false, decide_false, Bool.false_eq_true, if_false]
  refine Ok.loop (fun k z m' => m' = m ∧ ∃ i : Nat, k + i = l.length ∧ z = [u, v, .int .i64 i]) ?_ (k := l.length) ⟨rfl, 0, rfl, rfl⟩
  rintro k z m' rec ⟨rfl, i, hk, rfl⟩ ih
  by_cases h1 : i < l.length
  · have d1 : (i : Int) < (l.length : Int) := by omega
    obtain ⟨x, hx⟩ : ∃ x, l[i]? = some x := ⟨l[i], List.getElem?_eq_getElem h1⟩
    obtain ⟨b1, o1, _, hix1, -, -, ⟨rfl, -⟩, -, hld1⟩ := hu.at hx
    obtain ⟨b2, o2, _, hix2, -, -, ⟨rfl, -⟩, -, hld2⟩ := hv.at hx
    have l1 : load? none (.ptr b1 o1) m' = some (.int .i64 x) := hld1 0 _ rfl
    have l2 : load? none (.ptr b2 o2) m' = some (.int .i64 x) := hld2 0 _ rfl
    have e4 : IntKind.i64.wrap ((i : Int) + 1) = ((i + 1 : Nat) : Int) := by rw [IntWalk.i64_in _ (by omega)]; omega
    simp -implicitDefEqProofs only [List.getD_cons_zero, List.getD_cons_succ, ref01_Same_l0, simpS, Nat.reduceAdd, hu.len, d1, decide_true, if_true, hix1, l1, hix2, l2, ne_eq, not_true_eq_false, decide_false, Bool.false_eq_true, if_false, e4]
    exact ih (k - 1) _ _ (by omega) ⟨rfl, i + 1, by omega, rfl⟩
  · obtain rfl : i = l.length := by omega
    have d1 : ¬ (l.length : Int) < (l.length : Int) := by omega
    simp -implicitDefEqProofs only [List.getD_cons_zero, List.getD_cons_succ, ref01_Same_l0, simpS, Nat.reduceAdd, hu.len, d1, decide_false, Bool.false_eq_true, if_false]
    exact hq
/-- Is it of few? -/
def FewP (cs : List (List BandD)) : Prop := cs.length ≤ 1000 ∧ ∀ c ∈ cs, c.length ≤ 1000 ∧ ∀ b ∈ c, b.p.length ≤ 1000
theorem alike_ok {K L : Nat → Prop} {f : FrameD} {g : FrameD} {u v : AV} {m : Mem} {Q : AV → Mem → Prop} (hu : ChansR K m u f.chans) (hv : ChansR L m v f.chans) (hK : ∀ b, K b → b < m.next) (hL : ∀ b, L b → b < m.next) (hf : FewP f.chans) (hq : ∀ m', Same m m' → Q (.bool true) m') :
    Ok (R fn_ref20_Alike [.agg (frameC f u), .agg (frameC f v)]) m Q := by
  refine Ok.call (fun n => ref20_Alike_eq rfl n _ _) ?_
  simp -implicitDefEqProofs only [ref20_Alike, ok_box]
  have hS1 := Same.alloc m (.cells T_api_Frame 0 (frameC f u))
  have hg2 := Mem.get_alloc m (.cells T_api_Frame 0 (frameC f u))
  have hnx1 : (m.alloc (.cells T_api_Frame 0 (frameC f u))).next = m.next + 1 := rfl
  generalize m.alloc (.cells T_api_Frame 0 (frameC f u)) = m1 at *
  have hS2 := Same.alloc m1 (.cells T_api_Frame 0 (frameC f v))
  have hg3 := Mem.get_alloc m1 (.cells T_api_Frame 0 (frameC f v))
  generalize m1.alloc (.cells T_api_Frame 0 (frameC f v)) = m2 at *
  have hS := hS1.trans hS2
  have hg22 := (hS2.get (by omega)).trans hg2
  have hu2 := hu.keep (m' := m2) (fun b hb => hS.get (hK b hb))
  have hv2 := hv.keep (m' := m2) (fun b hb => hS.get (hL b hb))
  unfold frameC at hg22 hg3
  have hq2 := hq m2 hS
  simp -implicitDefEqProofs only [simpS, Nat.reduceAdd, load_at hg22, load_at hg3, neqBool, beq_self_eq_true, Bool.not_true, Bool.false_eq_true, if_false, hu2.len, hv2.len, ne_eq, not_true_eq_false, decide_false, ref20_Alike_j0]
  refine Ok.loop (fun k z m' => m' = m2 ∧ ∃ (i : Nat) (J : List AV), k + i = f.chans.length ∧ z = .ptr m.next 0 :: .ptr m1.next 0 :: .int .i64 i :: J) ?_ (k := f.chans.length) ⟨rfl, 0, _, rfl, rfl⟩
  rintro k z m' rec ⟨rfl, i, J, hk, rfl⟩ ih
  by_cases h1 : i < f.chans.length
  · have d1 : (i : Int) < (f.chans.length : Int) := by omega
    obtain ⟨c, hc⟩ : ∃ c, f.chans[i]? = some c := ⟨f.chans[i], List.getElem?_eq_getElem h1⟩
    obtain ⟨b1, o1, _, hix1, -, -, ⟨w1, rfl, hw1⟩, -, hld1⟩ := hu2.at hc
    obtain ⟨b2, o2, _, hix2, -, -, ⟨w2, rfl, hw2⟩, -, hld2⟩ := hv2.at hc
    have l1 : load? none (.ptr b1 o1) m' = some w1 := hld1 0 _ rfl
    have l2 : load? none (.ptr b2 o2) m' = some w2 := hld2 0 _ rfl
    have hfc := hf.2 c (List.mem_of_getElem? hc)
    have hf1 := hf.1
    have e4 : IntKind.i64.wrap ((i : Int) + 1) = ((i + 1 : Nat) : Int) := by rw [IntWalk.i64_in _ (by omega)]; omega
    simp -implicitDefEqProofs only [List.getD_cons_zero, List.getD_cons_succ, ref20_Alike_l0, simpS, Nat.reduceAdd, load_at hg22, load_at hg3, hu2.len, d1, decide_true, if_true, hix1, l1, hix2, l2, hw1.len, hw2.len, ne_eq, not_true_eq_false, decide_false, Bool.false_eq_true, if_false]
    refine Ok.loop (fun k' z m'' => m'' = m' ∧ ∃ (j : Nat) (J : List AV), k' + j = c.length ∧ z = .ptr m.next 0 :: .ptr m1.next 0 :: .int .i64 i :: w1 :: w2 :: .int .i64 j :: J) ?_ (k := c.length) ⟨rfl, 0, _, rfl, rfl⟩
    rintro k' z m'' rec' ⟨rfl, j, J', hk', rfl⟩ ih'
    by_cases h2 : j < c.length
    · have d2 : (j : Int) < (c.length : Int) := by omega
      obtain ⟨x, hx⟩ : ∃ x, c[j]? = some x := ⟨c[j], List.getElem?_eq_getElem h2⟩
      obtain ⟨b3, o3, _, hix3, -, -, ⟨p3, rfl, -, -, hp3⟩, -, hld3⟩ := hw1.at hx
      obtain ⟨b4, o4, _, hix4, -, -, ⟨p4, rfl, -, -, hp4⟩, -, hld4⟩ := hw2.at hx
      have l30 : load? none (.ptr b3 o3) m'' = some (.int .i64 x.c) := hld3 0 _ rfl
      have l31 : load? none (.ptr b3 (o3 + 1)) m'' = some (.int .i64 x.f) := hld3 1 _ rfl
      have l32 : load? none (.ptr b3 (o3 + 2)) m'' = some p3 := hld3 2 _ rfl
      have l40 : load? none (.ptr b4 o4) m'' = some (.int .i64 x.c) := hld4 0 _ rfl
      have l41 : load? none (.ptr b4 (o4 + 1)) m'' = some (.int .i64 x.f) := hld4 1 _ rfl
      have l42 : load? none (.ptr b4 (o4 + 2)) m'' = some p4 := hld4 2 _ rfl
      have e5 : IntKind.i64.wrap ((j : Int) + 1) = ((j + 1 : Nat) : Int) := by rw [IntWalk.i64_in _ (by omega)]; omega
      simp -implicitDefEqProofs only [List.getD_cons_zero, List.getD_cons_succ, ref20_Alike_l1, simpS, Nat.reduceAdd, hw1.len, d2, decide_true, if_true, hix3, hix4, l30, l31, l32, l40, l41, l42, ne_eq, not_true_eq_false, decide_false, Bool.false_eq_true, if_false]
      refine Ok.bnd (same01_ok hp3 hp4 (hfc.2 x (List.mem_of_getElem? hx)) ?_)
      simp -implicitDefEqProofs only [simpS, Nat.reduceAdd, Bool.not_true, ref20_Alike_j1, Bool.false_eq_true, if_false, e5]
      exact ih' (k' - 1) _ _ (by omega) ⟨rfl, j + 1, _, by omega, rfl⟩
    · obtain rfl : j = c.length := by omega
      have d2 : ¬ (c.length : Int) < (c.length : Int) := by omega
      simp -implicitDefEqProofs only [List.getD_cons_zero, List.getD_cons_succ, ref20_Alike_l1, simpS, Nat.reduceAdd, hw1.len, d2, decide_false, Bool.false_eq_true, if_false, e4]
      exact ih (k - 1) _ _ (by omega) ⟨rfl, i + 1, _, by omega, rfl⟩
  · obtain rfl : i = f.chans.length := by omega
    have d1 : ¬ (f.chans.length : Int) < (f.chans.length : Int) := by omega
    simp -implicitDefEqProofs only [List.getD_cons_zero, List.getD_cons_succ, ref20_Alike_l0, simpS, Nat.reduceAdd, load_at hg22, hu2.len, d1, decide_false, Bool.false_eq_true, if_false]
    exact hq2
theorem same20_ok {K L : Nat → Prop} {f : FrameD} {u v : AV} {m : Mem} {Q : AV → Mem → Prop} (hu : ChansR K m u f.chans) (hv : ChansR L m v f.chans) (hK : ∀ b, K b → b < m.next) (hL : ∀ b, L b → b < m.next) (hf : FewP f.chans) (hq : ∀ m', Same m m' → Q (.bool true) m') :
    Ok (R fn_ref20_Same [.agg (frameC f u), .agg (frameC f v)]) m Q := by
  refine Ok.call (fun n => ref20_Same_eq rfl n _ _) ?_
  simp -implicitDefEqProofs only [ref20_Same, ok_box]
  have hS1 := Same.alloc m (.cells T_api_Frame 0 (frameC f u))
  have hg2 := Mem.get_alloc m (.cells T_api_Frame 0 (frameC f u))
  have hnx1 : (m.alloc (.cells T_api_Frame 0 (frameC f u))).next = m.next + 1 := rfl
  generalize m.alloc (.cells T_api_Frame 0 (frameC f u)) = m1 at *
  have hS2 := Same.alloc m1 (.cells T_api_Frame 0 (frameC f v))
  have hg3 := Mem.get_alloc m1 (.cells T_api_Frame 0 (frameC f v))
  generalize m1.alloc (.cells T_api_Frame 0 (frameC f v)) = m2 at *
  have hS := hS1.trans hS2
  have hg22 := (hS2.get (by omega)).trans hg2
  have l2 : load? (some 5) (.ptr m.next 0) m2 = some (.agg (frameC f u)) := by rw [load_at' hg22]; rfl
  have l3 : load? (some 5) (.ptr m1.next 0) m2 = some (.agg (frameC f v)) := by rw [load_at' hg3]; rfl
  unfold frameC at hg22 hg3
  simp -implicitDefEqProofs only [simpS, Nat.reduceAdd, load_at hg22, load_at hg3, eqlBool, beq_self_eq_true, if_true, decide_true, l2, l3]
  refine Ok.bnd (alike_ok (g := f) (hu.keep (m' := m2) fun b hb => hS.get (hK b hb)) (hv.keep (m' := m2) fun b hb => hS.get (hL b hb)) (fun b hb => Nat.lt_of_lt_of_le (hK b hb) hS.next) (fun b hb => Nat.lt_of_lt_of_le (hL b hb) hS.next) hf fun m' hS' => ?_)
  simp -implicitDefEqProofs only [ref20_Same_j0, simpS, Nat.reduceAdd]
  exact hq m' (hS.trans hS')
end SplA

/- What Get tells. -/
namespace SplA
open Go.Proofs.YtooogfnmhfocjaaDoor.Spl Go Go.Proofs
set_option maxRecDepth 100000
set_option linter.unusedVariables false
set_option linter.unusedSimpArgs false

def zeroD : FrameD := ⟨false, false, false, 0, []⟩
/-- What Get tells: a frame, and why not. -/
def GetS (s : List UInt8) (n q : Int) (p : List (List Int)) (F : FrameD) (e : Int) : Prop :=
  (getE s n q = 0 ∧ GetP s n q p F ∧ e = 0) ∨ (getE s n q = 0 ∧ (∀ f, ¬ GetP s n q p f) ∧ F = zeroD ∧ e = 4) ∨ (getE s n q ≠ 0 ∧ F = zeroD ∧ e = getE s n q)
theorem getS_some (s : List UInt8) (n q : Int) (p : List (List Int)) : ∃ F e, GetS s n q p F e := by
  by_cases hE : getE s n q = 0
  · by_cases hG : ∃ f, GetP s n q p f
    · obtain ⟨f, hf⟩ := hG
      exact ⟨f, 0, .inl ⟨hE, hf, rfl⟩⟩
    · exact ⟨zeroD, 4, .inr (.inl ⟨hE, fun f hf => hG ⟨f, hf⟩, rfl, rfl⟩)⟩
  · exact ⟨zeroD, _, .inr (.inr ⟨hE, rfl, rfl⟩)⟩
theorem fit_few {f : FrameD} {n q : Int} (h : FitP f n q) : FewP f.chans := by
  refine ⟨by have := h.1; have := h.2.1; omega, fun c hc => ?_⟩
  have hcP := h.2.2.2.2.2 c hc
  refine ⟨by rw [hcP.1]; decide, fun b hb => ?_⟩
  obtain ⟨k, hk⟩ := List.getElem?_of_mem hb
  have := (hcP.2 k b hk).2.1
  have := widthN_le k
  omega
theorem getS_few {s : List UInt8} {n q : Int} {p : List (List Int)} {F : FrameD} {e : Int} (h : GetS s n q p F e) : FewP F.chans := by
  rcases h with ⟨-, h, -⟩ | ⟨-, -, rfl, -⟩ | ⟨-, rfl, -⟩
  · exact fit_few h.2.1.1
  · exact ⟨Nat.zero_le _, fun c hc => by simp [zeroD] at hc⟩
  · exact ⟨Nat.zero_le _, fun c hc => by simp [zeroD] at hc⟩
theorem zero_chans (K : Nat → Prop) (m : Mem) : ChansR K m .nilslice zeroD.chans := .inl ⟨.inl rfl, rfl⟩
theorem getP_one {s : List UInt8} {n q : Int} {p : List (List Int)} {f g : FrameD} (h : GetP s n q p f) (h' : GetP s n q p g) : g = f := by
  have := h'.1
  rw [h.1] at this
  exact (Option.some.inj this).symm
theorem get_spec {K : Nat → Prop} {s : List UInt8} {p : List (List Int)} {n q e : Int} {F : FrameD} {m : Mem} {vp : AV} {Q : AV → Mem → Prop} (hS : GetS s n q p F e) (hK : ∀ b, K b → b < m.next) (hbn : m.base ≤ m.next) (hp : RowsR K m vp p) (hlen : p.length ≤ 1000) (hlen2 : ∀ r ∈ p, r.length ≤ 1000)
    (hq : ∀ m' u, Same m m' → ChansR (fun b => m.next ≤ b ∧ b < m'.next) m' u F.chans → Q (.tup [.agg (frameC F u), .int .i64 e]) m') : Ok (R fn_code_Get [.str (bs s), .int .i64 n, .int .i64 q, vp]) m Q := by
  refine get_ok hK hbn hp hlen hlen2 (fun m' u f hE hG hSm hu => ?_) (fun m' hE hSm => ?_) (fun m' hE hG hSm => ?_)
  · rcases hS with ⟨-, h, rfl⟩ | ⟨-, h, -, -⟩ | ⟨h, -, -⟩
    · obtain rfl := getP_one h hG
      exact hq m' u hSm hu
    · exact absurd hG (h f)
    · exact absurd hE h
  · rcases hS with ⟨h, -, -⟩ | ⟨h, -, -, -⟩ | ⟨-, rfl, rfl⟩
    · exact absurd h hE
    · exact absurd h hE
    · exact hq m' .nilslice hSm (zero_chans _ _)
  · rcases hS with ⟨-, h, -⟩ | ⟨-, -, rfl, rfl⟩ | ⟨h, -, -⟩
    · exact absurd h (hG F)
    · exact hq m' .nilslice hSm (zero_chans _ _)
    · exact absurd hE h
end SplA

/- Are they few? -/
namespace SplA
open Go.Proofs.YtooogfnmhfocjaaDoor.Spl Go Go.Proofs
set_option maxRecDepth 100000
set_option linter.unusedVariables false
set_option linter.unusedSimpArgs false

theorem few22_ok {K : Nat → Prop} {p : List (List Int)} {v : AV} {m : Mem} {Q : AV → Mem → Prop} (hp : RowsR K m v p) (hl : p.length ≤ 9223372036854775807)
    (hq : ∀ b : Bool, (b = true → p.length ≤ 4 ∧ ∀ r ∈ p, r.length ≤ 15) → Q (.bool b) m) : Ok (R fn_law22_few [v]) m Q := by
  refine Ok.call (fun n => law22_few_eq rfl n _) ?_
  simp -implicitDefEqProofs only [law22_few]
  refine Ok.loop (fun k l m' => m' = m ∧ ∃ i : Nat, k + i = p.length ∧ l = [v, .int .i64 i] ∧ ∀ r ∈ p.take i, r.length ≤ 15) ?_ (k := p.length) ⟨rfl, 0, rfl, rfl, fun _ h => by simp at h⟩
  rintro k l m' rec ⟨rfl, i, hk, rfl, hall⟩ ih
  by_cases h4 : i < p.length
  · have d1 : (i : Int) < (p.length : Int) := by omega
    obtain ⟨r, hr⟩ : ∃ r, p[i]? = some r := ⟨p[i], List.getElem?_eq_getElem h4⟩
    obtain ⟨b', o, ce, hix, hKb, -, ⟨vr, rfl, hR⟩, -, hld⟩ := hp.at hr
    have hld0 : load? none (.ptr b' o) m' = some vr := hld 0 _ rfl
    have e2 : IntKind.i64.wrap ((i : Int) + 1) = ((i + 1 : Nat) : Int) := by rw [IntWalk.i64_in _ (by omega)]; omega
    simp -implicitDefEqProofs only [List.getD_cons_zero, List.getD_cons_succ, law22_few_l0, simpS, Nat.reduceAdd, hp.len, d1, decide_true, if_true, hix, hld0, hR.len]
    by_cases h5 : r.length ≤ 15
    · have d2 : ¬ (15 : Int) < (r.length : Int) := by omega
      simp -implicitDefEqProofs only [d2, decide_false, Bool.false_eq_true, if_false, e2]
      refine ih (k - 1) _ _ (by omega) ⟨rfl, i + 1, by omega, rfl, fun r' hr' => ?_⟩
      rw [List.take_add_one, List.mem_append] at hr'
      rcases hr' with h | h
      · exact hall r' h
      · rw [hr] at h
        simp at h
        rw [h]; exact h5
    · have d2 : (15 : Int) < (r.length : Int) := by omega
      simp -implicitDefEqProofs only [d2, decide_true, if_true]
      exact hq false (fun h => by cases h)
  · obtain rfl : i = p.length := by omega
    have d1 : ¬ (p.length : Int) < (p.length : Int) := by omega
    rw [List.take_length] at hall
    simp -implicitDefEqProofs only [List.getD_cons_zero, List.getD_cons_succ, law22_few_l0, simpS, Nat.reduceAdd, hp.len, d1, decide_false, Bool.false_eq_true, if_false]
    exact hq _ (fun h => ⟨by have := of_decide_eq_true h; omega, hall⟩)

theorem few20_in {K : Nat → Prop} {f : FrameD} {v vb : AV} {c : List BandD} {i i4 b1 o1 : Nat} {m0 : Mem} {Q : AV → Mem → Prop} {rec : Nat → List AV → M AV} (hg4 : m0.get i4 = .cells T_api_Frame 0 (frameC f v)) (hix1 : aIdxS 1 v (.int .i64 i) = some (.ptr b1 o1)) (hl1 : load? none (.ptr b1 o1) m0 = some vb) (hv : BandsR K m0 vb c) (hc : c.length ≤ 15) (hi : i < 1000)
    (hno : Q (.bool false) m0) (hq : Ok (fun k => rec k [.ptr i4 0, .int .i64 (i + 1 : Nat)]) m0 Q) :
    Ok (fun k => loopN (fun r l => ref20_Few_l1 (fcall Tryd.prog ext1 k) k (rec k) r (l.getD 0 .undef) (l.getD 1 .undef) (l.getD 2 .undef)) k [.ptr i4 0, .int .i64 i, .int .i64 0]) m0 Q := by
  refine Ok.loop (fun k l m => m = m0 ∧ ∃ j : Nat, k + j = c.length ∧ l = [.ptr i4 0, .int .i64 i, .int .i64 j]) ?_ (k := c.length) ⟨rfl, 0, rfl, rfl⟩
  rintro k l m rec' ⟨rfl, j, hk, rfl⟩ ih
  unfold frameC at hg4
  by_cases h1 : j < c.length
  · have d1 : (j : Int) < (c.length : Int) := by omega
    obtain ⟨b, hb⟩ : ∃ b, c[j]? = some b := ⟨c[j], List.getElem?_eq_getElem h1⟩
    obtain ⟨b', o, ce, hix, hKb, hl3, ⟨vp, rfl, hw1, hw2, hp⟩, hl, hld⟩ := hv.at hb
    have l2 : load? none (.ptr b' (o + 2)) m = some vp := hld 2 _ rfl
    have e4 : IntKind.i64.wrap ((j : Int) + 1) = ((j + 1 : Nat) : Int) := by rw [IntWalk.i64_in _ (by omega)]; omega
    simp -implicitDefEqProofs only [List.getD_cons_zero, List.getD_cons_succ, ref20_Few_l1, simpS, Nat.reduceAdd, load_at hg4, hix1, hl1, hv.len, d1, decide_true, if_true, hix, l2, hp.len]
    by_cases h2 : (10 : Int) < (b.p.length : Int)
    · simp -implicitDefEqProofs only [h2, decide_true, if_true]
      exact hno
    · simp -implicitDefEqProofs only [h2, decide_false, Bool.false_eq_true, if_false, e4]
      exact ih (k - 1) _ _ (by omega) ⟨rfl, j + 1, by omega, rfl⟩
  · obtain rfl : j = c.length := by omega
    have d1 : ¬ (c.length : Int) < (c.length : Int) := by omega
    have e4 : IntKind.i64.wrap ((i : Int) + 1) = ((i + 1 : Nat) : Int) := by rw [IntWalk.i64_in _ (by omega)]; omega
    simp -implicitDefEqProofs only [List.getD_cons_zero, List.getD_cons_succ, ref20_Few_l1, simpS, Nat.reduceAdd, load_at hg4, hix1, hl1, hv.len, d1, decide_false, Bool.false_eq_true, if_false, e4]
    exact hq
theorem few20_ok {K : Nat → Prop} {f : FrameD} {v : AV} {m : Mem} {Q : AV → Mem → Prop} (hv : ChansR K m v f.chans) (hK : ∀ b, K b → b < m.next)
    (hq : ∀ m' (b : Bool), Same m m' → Q (.bool b) m') : Ok (R fn_ref20_Few [.agg (frameC f v)]) m Q := by
  refine Ok.call (fun n => ref20_Few_eq rfl n _) ?_
  have hS := Same.alloc m (.cells T_api_Frame 0 (frameC f v))
  have hg0 := Mem.get_alloc m (.cells T_api_Frame 0 (frameC f v))
  simp -implicitDefEqProofs only [ref20_Few, ok_box]
  generalize m.alloc (.cells T_api_Frame 0 (frameC f v)) = m1 at *
  have hv1 := hv.keep (m' := m1) (fun b hb => hS.get (hK b hb))
  have hg := hg0
  unfold frameC at hg
  have hq1 := fun b => hq m1 b hS
  simp -implicitDefEqProofs only [simpS, Nat.reduceAdd, load_at hg, hv1.len]
  by_cases h1 : (4 : Int) < (f.chans.length : Int)
  · simp -implicitDefEqProofs only [h1, decide_true, if_true]
    exact hq1 false
  · simp -implicitDefEqProofs only [h1, decide_false, Bool.false_eq_true, if_false]
    refine Ok.loop (fun k l m' => m' = m1 ∧ ∃ i : Nat, k + i = f.chans.length ∧ l = [.ptr m.next 0, .int .i64 i]) ?_ (k := f.chans.length) ⟨rfl, 0, rfl, rfl⟩
    rintro k l m' rec ⟨rfl, i, hk, rfl⟩ ih
    by_cases h2 : i < f.chans.length
    · have d1 : (i : Int) < (f.chans.length : Int) := by omega
      obtain ⟨c, hc⟩ : ∃ c, f.chans[i]? = some c := ⟨f.chans[i], List.getElem?_eq_getElem h2⟩
      obtain ⟨b', o, ce, hix, hKb, -, ⟨vb, rfl, hb⟩, -, hld⟩ := hv1.at hc
      have l0 : load? none (.ptr b' o) m' = some vb := hld 0 _ rfl
      simp -implicitDefEqProofs only [List.getD_cons_zero, List.getD_cons_succ, ref20_Few_l0, simpS, Nat.reduceAdd, load_at hg, hv1.len, d1, decide_true, if_true, hix, l0, hb.len]
      by_cases h3 : (15 : Int) < (c.length : Int)
      · simp -implicitDefEqProofs only [h3, decide_true, if_true]
        exact hq1 false
      · simp -implicitDefEqProofs only [h3, decide_false, Bool.false_eq_true, if_false]
        refine few20_in hg0 (hix .i64) l0 hb (by omega) (by omega) (hq1 false) (ih (k - 1) _ _ (by omega) ⟨rfl, i + 1, by omega, rfl⟩)
    · obtain rfl : i = f.chans.length := by omega
      have d1 : ¬ (f.chans.length : Int) < (f.chans.length : Int) := by omega
      simp -implicitDefEqProofs only [List.getD_cons_zero, List.getD_cons_succ, ref20_Few_l0, simpS, Nat.reduceAdd, load_at hg, hv1.len, d1, decide_false, Bool.false_eq_true, if_false]
      exact hq1 true

end SplA

/- What the document's small functions do: widths, pulses of a band, sizes, rows. -/
namespace SplA
open Go.Proofs.YtooogfnmhfocjaaDoor.Spl Go Go.Proofs
set_option maxRecDepth 100000
set_option linter.unusedVariables false
set_option linter.unusedSimpArgs false

theorem rwidth_ok {b : Nat} {m : Mem} {Q : AV → Mem → Prop} (hb : b < 13) (hq : Q (.int .i64 (widthN b)) m) : Ok (R fn_ref13_Width [.int .i64 b]) m Q := by
  refine Ok.call (fun n => ref13_Width_eq rfl n _) ?_
  have d1 : ¬ (b : Int) < 0 := by omega
  have d2 : ¬ (12 : Int) < (b : Int) := by omega
  unfold widthN at hq
  simp -implicitDefEqProofs only [ref13_Width, ref13_Width_j0, simpS, Nat.reduceAdd, d1, d2, decide_false, Bool.false_eq_true, if_false]
  by_cases h4 : b < 4
  · have d4 : (b : Int) < 4 := by omega
    rw [if_pos h4] at hq
    simp -implicitDefEqProofs only [d4, decide_true, if_true]
    exact hq
  · have d4 : ¬ (b : Int) < 4 := by omega
    rw [if_neg h4] at hq
    by_cases h8 : b < 8
    · have d8 : (b : Int) < 8 := by omega
      rw [if_pos h8] at hq
      simp -implicitDefEqProofs only [d4, d8, decide_true, decide_false, Bool.false_eq_true, if_false, if_true]
      exact hq
    · have d8 : ¬ (b : Int) < 8 := by omega
      rw [if_neg h8, if_pos hb] at hq
      simp -implicitDefEqProofs only [d4, d8, decide_false, Bool.false_eq_true, if_false]
      exact hq
theorem rband_ok {q c : Int} {w : Nat} {m : Mem} {Q : AV → Mem → Prop} (hq : Q (.int .i64 (bandN q c w)) m) : Ok (R fn_ref15_Band [.int .i64 q, .int .i64 c, .int .i64 w]) m Q := by
  refine Ok.call (fun n => ref15_Band_eq rfl n _ _ _) ?_
  by_cases h : 0 ≤ q ∧ q ≤ 10 ∧ 1 ≤ c ∧ c ≤ 23
  · have hb : bandN q c w = timesN w * (min 8 (c + q - 8)).toNat := if_pos h
    have d1 : ¬ q < 0 := by omega
    have d2 : ¬ 10 < q := by omega
    have d3 : ¬ c < 1 := by omega
    have d4 : ¬ 23 < c := by omega
    have e1 : IntKind.i64.wrap (IntKind.i64.wrap (c + q) - 8) = c + q - 8 := by rw [IntWalk.i64_in (c + q) (by omega), IntWalk.i64_in _ (by omega)]
    have e0 : max 0 (min 8 (c + q - 8)) = (((min 8 (c + q - 8)).toNat : Nat) : Int) := by omega
    simp -implicitDefEqProofs only [ref15_Band, ref15_Band_j0, simpS, Nat.reduceAdd, d1, d2, d3, d4, decide_false, Bool.false_eq_true, if_false, e1, e0]
    rw [hb] at hq
    have h8 : (min 8 (c + q - 8)).toNat ≤ 8 := by omega
    generalize (min 8 (c + q - 8)).toNat = t at *
    have e2 : IntKind.i64.wrap (2 * (t : Int)) = ((2 * t : Nat) : Int) := by rw [IntWalk.i64_in _ (by omega)]; omega
    have e3 : IntKind.i64.wrap (3 * (t : Int)) = ((3 * t : Nat) : Int) := by rw [IntWalk.i64_in _ (by omega)]; omega
    unfold timesN at hq
    by_cases h2 : w = 2
    · subst h2
      rw [if_pos rfl, Nat.one_mul] at hq
      have z : ((2 : Nat) : Int) = 2 := rfl
      simp -implicitDefEqProofs only [z, decide_true, if_true]
      exact hq
    · have z2 : ¬ (w : Int) = 2 := by omega
      rw [if_neg h2] at hq
      by_cases h4 : w = 4
      · subst h4
        rw [if_pos rfl] at hq
        have z : ((4 : Nat) : Int) = 4 := rfl
        simp -implicitDefEqProofs only [z2, z, decide_true, decide_false, Bool.false_eq_true, if_false, if_true, e2]
        exact hq
      · have z4 : ¬ (w : Int) = 4 := by omega
        rw [if_neg h4] at hq
        by_cases h8 : w = 8
        · subst h8
          rw [if_pos rfl] at hq
          have z : ((8 : Nat) : Int) = 8 := rfl
          simp -implicitDefEqProofs only [z2, z4, z, decide_true, decide_false, Bool.false_eq_true, if_false, if_true, e3]
          exact hq
        · have z8 : ¬ (w : Int) = 8 := by omega
          rw [if_neg h8, Nat.zero_mul] at hq
          simp -implicitDefEqProofs only [z2, z4, z8, decide_false, Bool.false_eq_true, if_false]
          exact hq
  · have hb : bandN q c w = 0 := if_neg h
    rw [hb] at hq
    by_cases d1 : q < 0
    · simp -implicitDefEqProofs only [ref15_Band, ref15_Band_j0, simpS, Nat.reduceAdd, d1, decide_true, if_true]; exact hq
    · by_cases d2 : 10 < q
      · simp -implicitDefEqProofs only [ref15_Band, ref15_Band_j0, simpS, Nat.reduceAdd, d1, d2, decide_true, decide_false, Bool.false_eq_true, if_false, if_true]; exact hq
      · by_cases d3 : c < 1
        · simp -implicitDefEqProofs only [ref15_Band, ref15_Band_j0, simpS, Nat.reduceAdd, d1, d2, d3, decide_true, decide_false, Bool.false_eq_true, if_false, if_true]; exact hq
        · have d4 : 23 < c := by omega
          simp -implicitDefEqProofs only [ref15_Band, ref15_Band_j0, simpS, Nat.reduceAdd, d1, d2, d3, d4, decide_true, decide_false, Bool.false_eq_true, if_false, if_true]; exact hq

/-- How far a number is from 0; 25: too far. -/
def farN (x : Int) : Nat := if x < -24 ∨ 24 < x then 25 else x.natAbs
theorem far_ok {x : Int} {m : Mem} {Q : AV → Mem → Prop} (hq : Q (.int .i64 (farN x)) m) : Ok (R fn_ref16_far [.int .i64 x]) m Q := by
  refine Ok.call (fun n => ref16_far_eq rfl n _) ?_
  by_cases h1 : x < -24
  · have : farN x = 25 := if_pos (.inl h1)
    rw [this] at hq
    simp -implicitDefEqProofs only [ref16_far, ref16_far_j0, simpS, Nat.reduceAdd, h1, decide_true, if_true]; exact hq
  · by_cases h2 : 24 < x
    · have : farN x = 25 := if_pos (.inr h2)
      rw [this] at hq
      simp -implicitDefEqProofs only [ref16_far, ref16_far_j0, simpS, Nat.reduceAdd, h1, h2, decide_true, decide_false, Bool.false_eq_true, if_false, if_true]; exact hq
    · have : farN x = x.natAbs := if_neg (by omega)
      rw [this] at hq
      have e : max x (IntKind.i64.wrap (0 - x)) = (x.natAbs : Int) := by rw [IntWalk.i64_in _ (by omega)]; omega
      simp -implicitDefEqProofs only [ref16_far, ref16_far_j0, simpS, Nat.reduceAdd, h1, h2, decide_false, Bool.false_eq_true, if_false, e]; exact hq
def farSum : List Int → Nat
  | [] => 0
  | x :: l => farN x + farSum l
theorem farN_le (x : Int) : farN x ≤ 25 := by
  unfold farN
  split <;> omega
theorem farSum_eq : ∀ l : List Int, farSum l ≤ 24 ∨ absSum l ≤ 24 → farSum l = absSum l
  | [], _ => rfl
  | x :: l, h => by
    simp -implicitDefEqProofs only [farSum, absSum] at h ⊢
    have hx : farN x = x.natAbs := by
      unfold farN at h ⊢
      split at h
      · omega
      · rename_i h'; rw [if_neg h']
    have := farSum_eq l (by omega)
    omega
theorem rsize_ok {K : Nat → Prop} {l : List Int} {v : AV} {m : Mem} {Q : AV → Mem → Prop} (hl : IntsR K m v l) (hq : Q (sizeV (sizeN l)) m) : Ok (R fn_ref16_Size [v]) m Q := by
  refine Ok.call (fun n => ref16_Size_eq rfl n _) ?_
  by_cases h1 : 1 ≤ l.length ∧ l.length ≤ 8
  · have d1 : ¬ (l.length : Int) < 1 := by omega
    have d2 : ¬ (8 : Int) < (l.length : Int) := by omega
    simp -implicitDefEqProofs only [ref16_Size, ref16_Size_j0, simpS, Nat.reduceAdd, hl.len, d1, d2, decide_false, Bool.false_eq_true, if_false]
    refine Ok.loop (fun k z m' => m' = m ∧ ∃ (i s : Nat), k + i = l.length ∧ z = [v, .int .i64 s, .int .i64 i] ∧ s ≤ 25 * i ∧ s + farSum (l.drop i) = farSum l) ?_ (k := l.length) ⟨rfl, 0, 0, rfl, rfl, Nat.le_refl _, by simp⟩
    rintro k z m' rec ⟨rfl, i, s, hk, rfl, hs, he⟩ ih
    by_cases h2 : i < l.length
    · have d3 : (i : Int) < (l.length : Int) := by omega
      obtain ⟨x, hx, hdrop⟩ := drop_cons' h2
      obtain ⟨b', o, ce, hix, hKb, -, ⟨rfl, -⟩, -, hld⟩ := hl.at hx
      have hld0 : load? none (.ptr b' o) m' = some (.int .i64 x) := hld 0 _ rfl
      have hf := farN_le x
      rw [hdrop, farSum] at he
      simp -implicitDefEqProofs only [List.getD_cons_zero, List.getD_cons_succ, ref16_Size_l0, simpS, Nat.reduceAdd, hl.len, d3, decide_true, if_true, hix, hld0]
      refine Ok.bnd (far_ok ?_)
      have e1 : IntKind.i64.wrap ((s : Int) + (farN x : Int)) = ((s + farN x : Nat) : Int) := by rw [IntWalk.i64_in _ (by omega)]; omega
      have e2 : IntKind.i64.wrap ((i : Int) + 1) = ((i + 1 : Nat) : Int) := by rw [IntWalk.i64_in _ (by omega)]; omega
      simp -implicitDefEqProofs only [simpS, Nat.reduceAdd, e1, e2]
      exact ih (k - 1) _ _ (by omega) ⟨rfl, i + 1, s + farN x, by omega, rfl, by omega, by omega⟩
    · obtain rfl : i = l.length := by omega
      have d3 : ¬ (l.length : Int) < (l.length : Int) := by omega
      rw [List.drop_length, farSum, Nat.add_zero] at he
      subst he
      simp -implicitDefEqProofs only [List.getD_cons_zero, List.getD_cons_succ, ref16_Size_l0, simpS, Nat.reduceAdd, hl.len, d3, decide_false, Bool.false_eq_true, if_false]
      by_cases h3 : farSum l ≤ 24
      · have e := farSum_eq l (.inl h3)
        have : sizeN l = some (absSum l) := if_pos ⟨h1.1, h1.2, by omega⟩
        rw [this, ← e] at hq
        have d4 : ¬ (24 : Int) < (farSum l : Int) := by omega
        simp -implicitDefEqProofs only [d4, decide_false, Bool.false_eq_true, if_false]
        exact hq
      · have : sizeN l = none := if_neg (fun h => h3 (by rw [farSum_eq l (.inr h.2.2)]; exact h.2.2))
        rw [this] at hq
        have d4 : (24 : Int) < (farSum l : Int) := by omega
        simp -implicitDefEqProofs only [d4, decide_true, if_true]
        exact hq
  · have : sizeN l = none := if_neg (fun h => h1 ⟨h.1, h.2.1⟩)
    rw [this] at hq
    by_cases h0 : l.length = 0
    · have d1 : (l.length : Int) < 1 := by omega
      simp -implicitDefEqProofs only [ref16_Size, ref16_Size_j0, simpS, Nat.reduceAdd, hl.len, d1, decide_true, if_true]
      exact hq
    · have d1 : ¬ (l.length : Int) < 1 := by omega
      have d2 : (8 : Int) < (l.length : Int) := by omega
      simp -implicitDefEqProofs only [ref16_Size, ref16_Size_j0, simpS, Nat.reduceAdd, hl.len, d1, d2, decide_false, decide_true, Bool.false_eq_true, if_false, if_true]
      exact hq

end SplA

/- The document's table of pulses. -/
namespace SplA
open Go.Proofs.YtooogfnmhfocjaaDoor.Spl Go Go.Proofs
set_option maxRecDepth 100000
set_option linter.unusedVariables false
set_option linter.unusedSimpArgs false

theorem rowsR_at {K : Nat → Prop} {n : Nat} {m : Mem} {u : AV} (h : RowsR K m u ((List.range (n + 1)).map rowsI)) {r : Nat} (hr : r ≤ n) : ∃ b o w, (∀ kd, aIdxS 1 u (.int kd r) = some (.ptr b o)) ∧ load? none (.ptr b o) m = some w ∧ IntsR K m w (rowsI r) := by
  obtain ⟨b, o, ce, hix, -, -, ⟨w, rfl, hw⟩, -, hld⟩ := h.at (k := r) (x := rowsI r) (by simp [Nat.lt_succ_of_le hr])
  exact ⟨b, o, w, hix, hld 0 _ rfl, hw⟩
theorem rowI_at {K : Nat → Prop} {r : Nat} {m : Mem} {w : AV} (h : IntsR K m w (rowsI r)) {k : Nat} (hk : k < 25) : ∃ b o, (∀ kd, aIdxS 1 w (.int kd k) = some (.ptr b o)) ∧ load? none (.ptr b o) m = some (.int .i64 (pvT r k : Nat)) := by
  obtain ⟨b, o, ce, hix, -, -, ⟨rfl, -⟩, -, hld⟩ := h.at (rowsI_get hk)
  exact ⟨b, o, hix, hld 0 _ rfl⟩
theorem farN_abs {x : Int} (h : x.natAbs ≤ 24) : farN x = x.natAbs := if_neg (by omega)
end SplA

/- What the document's functions of frames do. -/
namespace SplA
open Go.Proofs.YtooogfnmhfocjaaDoor.Spl Go Go.Proofs
set_option maxRecDepth 100000
set_option linter.unusedVariables false
set_option linter.unusedSimpArgs false

theorem rfits_ok {K : Nat → Prop} {b : BandD} {ce : List AV} {q : Int} {n : Nat} {m : Mem} {Q : AV → Mem → Prop} (hb : RBand K m ce b) (hK : ∀ b, K b → b < m.next)
    (hq : ∀ m', Same m m' → Q (.bool (decide (FitsP b q n))) m') : Ok (R fn_ref20_Band [.agg ce, .int .i64 q, .int .i64 (widthN n)]) m Q := by
  obtain ⟨v, rfl, hc, hf, hp⟩ := hb
  refine Ok.call (fun k => ref20_Band_eq rfl k _ _ _) ?_
  simp -implicitDefEqProofs only [ref20_Band, ok_box]
  have hS1 := Same.alloc m (.cells T_api_Band 0 [.int .i64 b.c, .int .i64 b.f, v])
  have hg := Mem.get_alloc m (.cells T_api_Band 0 [.int .i64 b.c, .int .i64 b.f, v])
  generalize m.alloc (.cells T_api_Band 0 [.int .i64 b.c, .int .i64 b.f, v]) = m1 at *
  have hp1 := hp.keep (m' := m1) (fun b hb => hS1.get (hK b hb))
  simp -implicitDefEqProofs only [simpS, Nat.reduceAdd, load_at hg]
  refine Ok.bnd (rsize_ok hp1 ?_)
  have hno : ¬ FitsP b q n → Q (.bool false) m1 := fun h => by
    have := hq m1 hS1
    rw [decide_eq_false h] at this
    exact this
  have hq1 := hq m1 hS1
  have htail : 0 ≤ b.c → b.c ≤ 23 → 0 ≤ b.f → b.f ≤ 3 → (b.c = 0 → b.f = 0) → ∀ hlen : b.p.length = widthN n, ∀ k, sizeN b.p = some k → ∀ x : Bool, (x = decide ((k : Int) = (bandN q b.c (widthN n) : Int))) → Q (.bool x) m1 := by
    intro k1 k2 k3 k4 k5 k6 k hk x hx
    have : x = decide (FitsP b q n) := by
      rw [hx]
      refine decide_eq_decide.2 ⟨fun h => ⟨by rw [hk]; congr 1; omega, k6, k5, k1, k2, k3, k4⟩, fun h => ?_⟩
      have := h.1
      rw [hk] at this
      cases this
      rfl
    rw [this]
    exact hq1
  simp -implicitDefEqProofs only [sizeV, aExt, simpS, Nat.reduceAdd, load_at hg]
  by_cases c1 : 0 ≤ b.c
  · by_cases c2 : b.c ≤ 23
    · by_cases c3 : 0 ≤ b.f
      · by_cases c4 : b.f ≤ 3
        · simp -implicitDefEqProofs only [c1, c2, c3, c4, decide_true, if_true, hp1.len]
          have hrest : (b.c = 0 → b.f = 0) → ∀ Z : Prop, (Z ↔ (if decide ((b.p.length : Int) = (widthN n : Int)) = true then if (sizeN b.p).isSome = true then Ok (fun k => bnd (fcall Tryd.prog ext1 k fn_ref15_Band [.int .i64 q, .int .i64 b.c, .int .i64 (widthN n)]) fun v59 => lp (aBin .eql [6] (.int .i64 ((sizeN b.p).getD 0 : Nat)) v59) fun v60 => ret v60) m1 Q else Q (.bool false) m1 else Q (.bool false) m1)) → Z := by
            intro k5 Z hZ
            rw [hZ]
            by_cases c6 : b.p.length = widthN n
            · have d6 : (b.p.length : Int) = (widthN n : Int) := by omega
              rw [if_pos (decide_eq_true d6)]
              cases hs : sizeN b.p with
              | none => exact hno (fun h => by rw [h.1] at hs; cases hs)
              | some k =>
                rw [if_pos (show (some k).isSome = true from rfl)]
                refine Ok.bnd (rband_ok ?_)
                simp -implicitDefEqProofs only [simpS, Nat.reduceAdd, Option.getD_some]
                exact htail c1 c2 c3 c4 k5 c6 k hs _ rfl
            · have d6 : ¬ (b.p.length : Int) = (widthN n : Int) := by omega
              rw [if_neg (by rw [decide_eq_false d6]; decide)]
              exact hno (fun h => c6 h.2.1)
          by_cases c5 : 0 < b.c
          · simp -implicitDefEqProofs only [c5, decide_true, if_true, ref20_Band_j0, simpS, Nat.reduceAdd, load_at hg, hp1.len]
            exact hrest (fun h => by omega) _ Iff.rfl
          · simp -implicitDefEqProofs only [c5, decide_false, Bool.false_eq_true, if_false]
            by_cases c7 : b.f = 0
            · simp -implicitDefEqProofs only [c7, decide_true, if_true, ref20_Band_j0, simpS, Nat.reduceAdd, load_at hg, hp1.len]
              exact hrest (fun _ => c7) _ Iff.rfl
            · simp -implicitDefEqProofs only [c7, decide_false, Bool.false_eq_true, if_false, ref20_Band_j0, simpS, Nat.reduceAdd]
              exact hno (fun h => c7 (h.2.2.1 (by omega)))
        · simp -implicitDefEqProofs only [c1, c2, c3, c4, decide_true, decide_false, Bool.false_eq_true, if_false, if_true, ref20_Band_j0, simpS, Nat.reduceAdd]
          exact hno (fun h => c4 h.2.2.2.2.2.2)
      · simp -implicitDefEqProofs only [c1, c2, c3, decide_true, decide_false, Bool.false_eq_true, if_false, if_true, ref20_Band_j0, simpS, Nat.reduceAdd]
        exact hno (fun h => c3 h.2.2.2.2.2.1)
    · simp -implicitDefEqProofs only [c1, c2, decide_true, decide_false, Bool.false_eq_true, if_false, if_true, ref20_Band_j0, simpS, Nat.reduceAdd]
      exact hno (fun h => c2 h.2.2.2.2.1)
  · simp -implicitDefEqProofs only [c1, decide_false, Bool.false_eq_true, if_false, ref20_Band_j0, simpS, Nat.reduceAdd]
    exact hno (fun h => c1 h.2.2.2.1)

theorem rfit_inner {K : Nat → Prop} {f : FrameD} {v vb : AV} {c : List BandD} {q : Int} {i i4 b1 o1 : Nat} {n : Int} {m0 : Mem} {Q : AV → Mem → Prop} {rec : Nat → List AV → M AV} (hg4 : m0.get i4 = .cells T_api_Frame 0 (frameC f v)) (hi4 : i4 < m0.next) (hve : AV.eqb v v = true) (hix1 : aIdxS 1 v (.int .i64 i) = some (.ptr b1 o1)) (hb1 : b1 < m0.next) (hl1 : load? none (.ptr b1 o1) m0 = some vb) (hv : BandsR K m0 vb c) (hK : ∀ b, K b → b < m0.next) (h13 : c.length = 13) (hi : i < 1000)
    (hno : ∀ m', Same m0 m' → ¬ ChanP q c → Q (.bool false) m')
    (hq : ∀ m', Same m0 m' → ChanP q c → Ok (fun k => rec k [.int .i64 n, .int .i64 q, .ptr i4 0, .int .i64 (i + 1 : Nat)]) m' Q) :
    Ok (fun k => loopN (fun r l => ref20_Fit_l1 (fcall Tryd.prog ext1 k) k (rec k) r (l.getD 0 .undef) (l.getD 1 .undef) (l.getD 2 .undef) (l.getD 3 .undef) (l.getD 4 .undef)) k [.int .i64 n, .int .i64 q, .ptr i4 0, .int .i64 i, .int .i64 0]) m0 Q := by
  refine Ok.loop (fun k l m => ∃ j : Nat, k + j = 13 ∧ l = [.int .i64 n, .int .i64 q, .ptr i4 0, .int .i64 i, .int .i64 j] ∧ (∀ k b, k < j → c[k]? = some b → FitsP b q k) ∧ Same m0 m) ?_ (k := 13) ⟨0, rfl, rfl, fun _ _ h => by omega, Same.refl _⟩
  rintro k l m rec' ⟨j, hk, rfl, hall, hS⟩ ih
  have hv' := hv.keep (m' := m) (fun b hb => hS.get (hK b hb))
  have hg := (hS.get hi4).trans hg4
  unfold frameC at hg
  have hl1' : load? none (.ptr b1 o1) m = some vb := (load_keep (hS.get hb1)).trans hl1
  by_cases h1 : j < 13
  · have d1 : (j : Int) < 13 := by omega
    obtain ⟨b, hb⟩ : ∃ b, c[j]? = some b := ⟨c[j], List.getElem?_eq_getElem (by omega)⟩
    obtain ⟨b', o, ce, hix, hKb, hl3, hR, hl, hld⟩ := hv'.at hb
    obtain ⟨vp, rfl, hw1, hw2, hp⟩ := id hR
    have s1 : ∀ k : M AV, same (some 3) (.ptr b' o) (.agg [.int .i64 b.c, .int .i64 b.f, vp]) m k = k := fun k => same_load hl (by simp [AV.eqb, AV.eqbs, hp.eqb]) k
    have s2 : ∀ k : M AV, same none (.ptr b1 o1) vb m k = k := fun k => same_load hl1' hv.eqb k
    have s3 : ∀ k : M AV, same none (.ptr i4 4) v m k = k := fun k => same_load (by rw [load_at hg]; rfl) hve k
    simp -implicitDefEqProofs only [List.getD_cons_zero, List.getD_cons_succ, ref20_Fit_l1, simpS, Nat.reduceAdd, d1, decide_true, if_true, load_at hg, hix1, hl1', hix, hl]
    refine Ok.bnd (rwidth_ok h1 ?_)
    simp -implicitDefEqProofs only [simpS, Nat.reduceAdd, s1, s2, s3]
    refine Ok.bnd (rfits_ok hR (fun b hb => Nat.lt_of_lt_of_le (hK b hb) hS.next) fun m2 hS2 => ?_)
    by_cases h2 : FitsP b q j
    · have e4 : IntKind.i64.wrap ((j : Int) + 1) = ((j + 1 : Nat) : Int) := by rw [IntWalk.i64_in _ (by omega)]; omega
      simp -implicitDefEqProofs only [h2, decide_true, simpS, Nat.reduceAdd, Bool.not_true, Bool.false_eq_true, if_false, e4]
      refine ih (k - 1) _ _ (by omega) ⟨j + 1, by omega, rfl, fun k b' hk hb' => ?_, hS.trans hS2⟩
      rcases Nat.lt_or_ge k j with h | h
      · exact hall k b' h hb'
      · obtain rfl : k = j := by omega
        rw [hb] at hb'; cases hb'
        exact h2
    · simp -implicitDefEqProofs only [h2, decide_false, simpS, Nat.reduceAdd, Bool.not_false, if_true]
      exact hno m2 (hS.trans hS2) (fun h => h2 (h.2 j b hb))
  · obtain rfl : j = 13 := by omega
    have d1 : ¬ ((13 : Nat) : Int) < 13 := by decide
    have e4 : IntKind.i64.wrap ((i : Int) + 1) = ((i + 1 : Nat) : Int) := by rw [IntWalk.i64_in _ (by omega)]; omega
    simp -implicitDefEqProofs only [List.getD_cons_zero, List.getD_cons_succ, ref20_Fit_l1, simpS, Nat.reduceAdd, d1, decide_false, Bool.false_eq_true, if_false, e4]
    exact hq m hS ⟨h13, fun k b hb => hall k b (by have := (List.getElem?_eq_some_iff.1 hb).1; omega) hb⟩

theorem rfit_ok {K : Nat → Prop} {f : FrameD} {v : AV} {n q : Int} {m : Mem} {Q : AV → Mem → Prop} (hv : ChansR K m v f.chans) (hK : ∀ b, K b → b < m.next)
    (hq : ∀ m' (x : Bool), (x = true ↔ FitP f n q) → Same m m' → Q (.bool x) m') : Ok (R fn_ref20_Fit [.agg (frameC f v), .int .i64 n, .int .i64 q]) m Q := by
  refine Ok.call (fun k => ref20_Fit_eq rfl k _ _ _) ?_
  simp -implicitDefEqProofs only [ref20_Fit, ok_box]
  have hS1 := Same.alloc m (.cells T_api_Frame 0 (frameC f v))
  have hg0 := Mem.get_alloc m (.cells T_api_Frame 0 (frameC f v))
  have hnx : m.next < (m.alloc (.cells T_api_Frame 0 (frameC f v))).next := Nat.lt_succ_self _
  generalize m.alloc (.cells T_api_Frame 0 (frameC f v)) = m1 at *
  have hv1 := hv.keep (m' := m1) (fun b hb => hS1.get (hK b hb))
  have hno : ∀ m', Same m1 m' → ¬ FitP f n q → Q (.bool false) m' := fun m' hS h => hq m' false ⟨fun h => absurd h (by decide), fun h' => absurd h' h⟩ (hS1.trans hS)
  have hno1 := hno m1 (Same.refl _)
  have hg := hg0
  unfold frameC at hg
  have hj0' : ¬ FitP f n q → Ok (fun k => ref20_Fit_j0 (fcall Tryd.prog ext1 k) k (.int .i64 n) (.int .i64 q) (.ptr m.next 0) (.bool true)) m1 Q := by
    intro h
    simp -implicitDefEqProofs only [ref20_Fit_j0, simpS, Nat.reduceAdd, if_true]
    exact hno1 h
  have hj0 : (1 ≤ n ∧ n ≤ 2) → (f.chans.length : Int) = n → ¬ (f.side = true ∧ n = 1) → (0 ≤ q ∧ q ≤ 10) → (-64 ≤ f.gain ∧ f.gain ≤ 32) → Ok (fun k => ref20_Fit_j0 (fcall Tryd.prog ext1 k) k (.int .i64 n) (.int .i64 q) (.ptr m.next 0) (.bool false)) m1 Q := by
    intro k1 k2 k3 k4 k5
    simp -implicitDefEqProofs only [ref20_Fit_j0, simpS, Nat.reduceAdd, Bool.false_eq_true, if_false]
    refine Ok.loop (fun k l m' => ∃ i : Nat, k + i = f.chans.length ∧ l = [.int .i64 n, .int .i64 q, .ptr m.next 0, .int .i64 i] ∧ (∀ c ∈ f.chans.take i, ChanP q c) ∧ Same m1 m') ?_ (k := f.chans.length) ⟨0, rfl, rfl, fun _ h => by simp at h, Same.refl _⟩
    rintro k l m' rec ⟨i, hk, rfl, hall, hS⟩ ih
    have hv' := hv1.keep (m' := m') (fun b hb => hS.get (Nat.lt_of_lt_of_le (hK b hb) hS1.next))
    have hg0' := (hS.get hnx).trans hg0
    have hg' := (hS.get hnx).trans hg
    by_cases h1 : i < f.chans.length
    · have d1 : (i : Int) < n := by omega
      obtain ⟨c, hc⟩ : ∃ c, f.chans[i]? = some c := ⟨f.chans[i], List.getElem?_eq_getElem h1⟩
      obtain ⟨b', o, ce, hix, hKb, hl3, ⟨vb, rfl, hb⟩, hl, hld⟩ := hv'.at hc
      have hl0 : load? none (.ptr b' o) m' = some vb := hld 0 _ rfl
      have hmem := List.mem_of_getElem? hc
      have hKm : ∀ b, K b → b < m'.next := fun b hb => Nat.lt_of_lt_of_le (hK b hb) (hS1.trans hS).next
      simp -implicitDefEqProofs only [List.getD_cons_zero, List.getD_cons_succ, ref20_Fit_l0, simpS, Nat.reduceAdd, d1, decide_true, if_true, load_at hg', hix, hl0, hb.len]
      by_cases h2 : c.length = 13
      · have d2 : ¬ (c.length : Int) ≠ 13 := by omega
        simp -implicitDefEqProofs only [d2, decide_false, Bool.false_eq_true, if_false]
        refine rfit_inner hg0' (Nat.lt_of_lt_of_le hnx hS.next) hv.eqb (hix .i64) (hKm b' hKb) hl0 hb hKm h2 (by omega) (fun m3 hS3 hn => hno m3 (hS.trans hS3) (fun h => hn (h.2.2.2.2.2 c hmem))) fun m3 hS3 hp => ?_
        refine ih (k - 1) _ _ (by omega) ⟨i + 1, by omega, rfl, fun d hd => ?_, hS.trans hS3⟩
        rw [List.take_add_one, List.mem_append] at hd
        rcases hd with hd | hd
        · exact hall d hd
        · rw [hc] at hd
          simp at hd
          rw [hd]; exact hp
      · have d2 : (c.length : Int) ≠ 13 := by omega
        simp -implicitDefEqProofs only [d2, ne_eq, not_false_eq_true, decide_true, if_true]
        exact hno m' hS (fun h => h2 (h.2.2.2.2.2 c hmem).1)
    · obtain rfl : i = f.chans.length := by omega
      have d1 : ¬ (f.chans.length : Int) < n := by omega
      simp -implicitDefEqProofs only [List.getD_cons_zero, List.getD_cons_succ, ref20_Fit_l0, simpS, Nat.reduceAdd, d1, decide_false, Bool.false_eq_true, if_false]
      rw [List.take_length] at hall
      exact hq m' true ⟨fun _ => ⟨k1, k2, k3, k4, k5, hall⟩, fun _ => rfl⟩ (hS1.trans hS)
  by_cases h1 : n < 1
  · simp -implicitDefEqProofs only [simpS, Nat.reduceAdd, h1, decide_true, if_true]; exact hj0' (fun h => by have := h.1; omega)
  by_cases h2 : 2 < n
  · simp -implicitDefEqProofs only [simpS, Nat.reduceAdd, h1, h2, decide_true, decide_false, Bool.false_eq_true, if_false, if_true]; exact hj0' (fun h => by have := h.1; omega)
  by_cases h3 : q < 0
  · simp -implicitDefEqProofs only [simpS, Nat.reduceAdd, h1, h2, h3, decide_true, decide_false, Bool.false_eq_true, if_false, if_true]; exact hj0' (fun h => by have := h.2.2.2.1; omega)
  by_cases h4 : 10 < q
  · simp -implicitDefEqProofs only [simpS, Nat.reduceAdd, h1, h2, h3, h4, decide_true, decide_false, Bool.false_eq_true, if_false, if_true]; exact hj0' (fun h => by have := h.2.2.2.1; omega)
  by_cases h5 : (f.chans.length : Int) = n
  · by_cases h6 : f.gain < -64
    · simp -implicitDefEqProofs only [simpS, Nat.reduceAdd, h1, h2, h3, h4, h5, h6, load_at hg, hv1.len, ne_eq, not_true_eq_false, decide_true, decide_false, Bool.false_eq_true, if_false, if_true]; exact hj0' (fun h => by have := h.2.2.2.2.1; omega)
    by_cases h7 : 32 < f.gain
    · simp -implicitDefEqProofs only [simpS, Nat.reduceAdd, h1, h2, h3, h4, h5, h6, h7, load_at hg, hv1.len, ne_eq, not_true_eq_false, decide_true, decide_false, Bool.false_eq_true, if_false, if_true]; exact hj0' (fun h => by have := h.2.2.2.2.1; omega)
    cases h8 : f.side with
    | true =>
      by_cases h9 : n = 1
      · simp -implicitDefEqProofs only [simpS, Nat.reduceAdd, h1, h2, h3, h4, h5, h6, h7, h8, load_at hg, hv1.len, ne_eq, not_true_eq_false, decide_false, Bool.false_eq_true, if_false, if_true]
        rw [decide_eq_true h9]
        exact hj0' (fun h => h.2.2.1 ⟨h8, h9⟩)
      · simp -implicitDefEqProofs only [simpS, Nat.reduceAdd, h1, h2, h3, h4, h5, h6, h7, h8, load_at hg, hv1.len, ne_eq, not_true_eq_false, decide_false, Bool.false_eq_true, if_false, if_true]
        rw [decide_eq_false h9]
        exact hj0 (by omega) h5 (fun h => h9 h.2) (by omega) (by omega)
    | false =>
      simp -implicitDefEqProofs only [simpS, Nat.reduceAdd, h1, h2, h3, h4, h5, h6, h7, h8, load_at hg, hv1.len, ne_eq, not_true_eq_false, decide_false, Bool.false_eq_true, if_false]
      exact hj0 (by omega) h5 (fun h => by have := h.1; rw [h8] at this; cases this) (by omega) (by omega)
  · simp -implicitDefEqProofs only [simpS, Nat.reduceAdd, h1, h2, h3, h4, h5, load_at hg, hv1.len, ne_eq, not_false_eq_true, decide_true, decide_false, Bool.false_eq_true, if_false, if_true]
    exact hj0' (fun h => h5 h.2.1)
end SplA

/- The law CodeBack. -/
namespace SplA
open Go.Proofs.YtooogfnmhfocjaaDoor.Spl Go Go.Proofs
set_option maxRecDepth 100000
set_option linter.unusedVariables false
set_option linter.unusedSimpArgs false

theorem getS_back {f : FrameD} {n q : Int} {p : List (List Int)} (hP : PutP f n q p) : GetS (Iv.start.parts (frameP f n q p)).ends n q p f 0 := by
  have hF := hP.1
  refine .inl ⟨?_, ⟨frameT_back hP, hP, rfl⟩, rfl⟩
  have hs := frame_short (p := p) hF
  unfold getE
  rw [if_neg (fun h => h ⟨hF.1, hF.2.2.2.1⟩), if_neg (by omega)]
def intraD (f : FrameD) : FrameD := { f with intra := true }
theorem put_intra {f : FrameD} {n q : Int} {p : List (List Int)} (h : PutP f n q p) (p' : List (List Int)) : PutP (intraD f) n q p' := ⟨h.1, .inl rfl⟩

/-- The last part of the law: octets that are read are written as they were. -/
theorem back3_ok {K : Nat → Prop} {s : List UInt8} {p : List (List Int)} {n q : Int} {m : Mem} {vp : AV} (hK : ∀ b, K b → b < m.next) (hbn : m.base ≤ m.next) (hp : RowsR K m vp p) (hl4 : p.length ≤ 1000) (hl15 : ∀ r ∈ p, r.length ≤ 1000) :
    Ok (fun k => law22_CodeBack_j3 (fcall Tryd.prog ext1 k) k (.int .i64 n) (.int .i64 q) vp (.str (bs s))) m (fun v _ => v = .bool true) := by
  obtain ⟨F, e, hS⟩ := getS_some s n q p
  simp -implicitDefEqProofs only [law22_CodeBack_j3]
  refine Ok.bnd (get_spec hS hK hbn hp hl4 hl15 fun m1 u hS1 hu => ?_)
  have hbn1 := hS1.bn hbn
  have hst1 := fun (k : Nat → AV → M AV) => ok_storeAll (i := m1.next) (k := k) (Q := fun v _ => v = .bool true) (vs := frameC F u) (n := 5) (Mem.get_alloc m1 (.cells T_api_Frame 0 [.bool false, .bool false, .bool false, .int .i64 0, .nilslice])) hbn1 rfl rfl (by simp [frameC, SlR.one hu])
  simp -implicitDefEqProofs only [aExt, simpS, Nat.reduceAdd, ok_alloc, hst1, Mem.alloc_set]
  have hS2 := Same.alloc m1 (.cells T_api_Frame 0 (frameC F u))
  have hg := Mem.get_alloc m1 (.cells T_api_Frame 0 (frameC F u))
  have hnx2 : (m1.alloc (.cells T_api_Frame 0 (frameC F u))).next = m1.next + 1 := rfl
  generalize m1.alloc (.cells T_api_Frame 0 (frameC F u)) = m2 at *
  have hS02 := hS1.trans hS2
  have hu2 := hu.keep (m' := m2) fun b hb => hS2.get hb.2
  have l19 : load? (some 5) (.ptr m1.next 0) m2 = some (.agg (frameC F u)) := by rw [load_at' hg]; rfl
  have l194 : load? none (.ptr m1.next 4) m2 = some u := by rw [load_at hg]; rfl
  by_cases he : e = 0
  · subst he
    rcases hS with ⟨-, hG, -⟩ | ⟨-, -, -, h⟩ | ⟨h, -, h'⟩
    rotate_left
    · cases h
    · exact absurd h'.symm h
    obtain ⟨hT, hP, hE⟩ := hG
    have d1 : ¬ (0 : Int) ≠ 0 := by decide
    simp -implicitDefEqProofs only [d1, decide_false, Bool.false_eq_true, if_false, l19, simpS, Nat.reduceAdd]
    have hK2 : ∀ b, (b < m2.next) → b < m2.next := fun b hb => hb
    refine Ok.bnd (put_ok (K := fun b => b < m2.next) (f := F) (p := p) (hu2.mono fun b hb => by omega) hK2 (hS02.bn hbn) (RowsR.mono (hp.keep (m' := m2) fun b hb => hS02.get (hK b hb)) fun b hb => Nat.lt_of_lt_of_le (hK b hb) hS02.next) hl4 hl15 (fun _ m3 hk => ?_) (fun h => absurd hP h))
    have l3 : load? (some 5) (.ptr m1.next 0) m3 = some (.agg (frameC F u)) := (load_keep (hk.get m1.next (by omega))).trans l19
    have hkn := hk.next
    rw [hE]
    simp -implicitDefEqProofs only [aExt, simpS, Nat.reduceAdd, decide_true, if_true, l3]
    refine Ok.bnd (rfit_ok (hu2.keep (m' := m3) fun b hb => hk.get b (by omega)) (fun b hb => by omega) fun m4 x hx hS4 => ?_)
    have hxt : x = true := hx.2 hP.1
    subst hxt
    simp -implicitDefEqProofs only [simpS, Nat.reduceAdd]
    refine Ok.bnd (awake_ok ?_)
    simp -implicitDefEqProofs only [law22_CodeBack_j5, simpS, Nat.reduceAdd]
  · have hz : F = zeroD := by
      rcases hS with ⟨-, -, h⟩ | ⟨-, -, h, -⟩ | ⟨-, h, -⟩
      · exact absurd h he
      · exact h
      · exact h
    subst hz
    have d1 : decide (e ≠ 0) = true := decide_eq_true he
    have hul : aLenS u = some (.int .i64 0) := hu.len
    simp -implicitDefEqProofs only [d1, if_true, simpS, Nat.reduceAdd, l194, hul, decide_true]
    refine Ok.bnd (awake_ok ?_)
    simp -implicitDefEqProofs only [law22_CodeBack_j4, simpS, Nat.reduceAdd]

theorem codeBack_ok {K : Nat → Prop} {f : FrameD} {s : List UInt8} {p : List (List Int)} {n q : Int} {m : Mem} {v vp : AV} (hv : ChansR K m v f.chans) (hK : ∀ b, K b → b < m.next) (hbn : m.base ≤ m.next) (hp : RowsR K m vp p) (hl : p.length ≤ 9223372036854775807) :
    Ok (R fn_law22_CodeBack [.agg (frameC f v), .int .i64 n, .int .i64 q, vp, .str (bs s)]) m (fun v _ => v = .bool true) := by
  refine Ok.call (fun k => law22_CodeBack_eq rfl k _ _ _ _ _) ?_
  have hS := Same.alloc m (.cells T_api_Frame 0 (frameC f v))
  have hg0 := Mem.get_alloc m (.cells T_api_Frame 0 (frameC f v))
  have hnx : m.next < (m.alloc (.cells T_api_Frame 0 (frameC f v))).next := Nat.lt_succ_self _
  simp -implicitDefEqProofs only [law22_CodeBack, ok_box]
  generalize m.alloc (.cells T_api_Frame 0 (frameC f v)) = m1 at *
  have hv1 := hv.keep (m' := m1) (fun b hb => hS.get (hK b hb))
  have hK1 : ∀ b, K b → b < m1.next := fun b hb => Nat.lt_of_lt_of_le (hK b hb) hS.next
  have hld : load? (some 5) (.ptr m.next 0) m1 = some (.agg (frameC f v)) := by rw [load_at' hg0]; rfl
  simp -implicitDefEqProofs only [simpS, Nat.reduceAdd, hld]
  refine Ok.bnd (few20_ok hv1 hK1 fun m2 b hS2 => ?_)
  have hS12 := hS.trans hS2
  have hp2 := hp.keep (m' := m2) (fun b hb => hS12.get (hK b hb))
  have hv2 := hv.keep (m' := m2) (fun b hb => hS12.get (hK b hb))
  have hg2 := (hS2.get hnx).trans hg0
  have hbn2 := hS12.bn hbn
  have haw : Ok (fun k => law22_CodeBack_j0 (fcall Tryd.prog ext1 k) k (.int .i64 n) (.int .i64 q) vp (.str (bs s)) (.ptr m.next 0) (.bool true)) m2 (fun v _ => v = .bool true) := by
    simp -implicitDefEqProofs only [law22_CodeBack_j0, simpS, Nat.reduceAdd, if_true]
    refine Ok.bnd (awake_ok ?_)
    simp -implicitDefEqProofs only [simpS, Nat.reduceAdd]
  cases b with
  | false =>
    simp -implicitDefEqProofs only [simpS, Nat.reduceAdd, Bool.not_false, if_true]
    exact haw
  | true =>
    simp -implicitDefEqProofs only [simpS, Nat.reduceAdd, Bool.not_true, Bool.false_eq_true, if_false]
    refine Ok.bnd (few22_ok hp2 hl fun b hb => ?_)
    cases b with
    | false =>
      simp -implicitDefEqProofs only [simpS, Nat.reduceAdd, Bool.not_false, if_true]
      exact haw
    | true =>
      obtain ⟨hl4, hl15⟩ := hb rfl
      have hl4' : p.length ≤ 1000 := by omega
      have hl15' : ∀ r ∈ p, r.length ≤ 1000 := fun r hr => by have := hl15 r hr; omega
      simp -implicitDefEqProofs only [simpS, Nat.reduceAdd, Bool.not_true, Bool.false_eq_true, if_false]
      by_cases hs : (300 : Int) < (s.length : Int)
      · simp -implicitDefEqProofs only [hs, decide_true]
        exact haw
      simp -implicitDefEqProofs only [hs, decide_false]
      have hld2 : load? (some 5) (.ptr m.next 0) m2 = some (.agg (frameC f v)) := by rw [load_at' hg2]; rfl
      have hn12 := hS2.next
      have hpa : ∀ {m' : Mem}, Kept (fun b => b < m2.next) m2 m' → RowsR K m' vp p := fun hk => hp2.keep fun b hb => hk.get b (by have := hK1 b hb; omega)
      have hva : ∀ {m' : Mem}, Kept (fun b => b < m2.next) m2 m' → ChansR K m' v f.chans := fun hk => hv2.keep fun b hb => hk.get b (by have := hK1 b hb; omega)
      have hKa : ∀ {m' : Mem}, Kept (fun b => b < m2.next) m2 m' → ∀ b, K b → b < m'.next := fun hk b hb => by have := hK1 b hb; have := hk.next; omega
      have hba : ∀ {m' : Mem}, Kept (fun b => b < m2.next) m2 m' → m'.base ≤ m'.next := fun hk => by have := hk.base; have := hk.next; omega
      simp -implicitDefEqProofs only [law22_CodeBack_j0, simpS, Nat.reduceAdd, Bool.false_eq_true, if_false, hld2]
      refine Ok.bnd (put_ok (K := fun b => b < m2.next) (f := f) (p := p) (hv2.mono fun b hb => by have := hK1 b hb; omega) (fun b hb => hb) hbn2 (RowsR.mono hp2 fun b hb => by have := hK1 b hb; omega) hl4' hl15' (fun hP m3 hk3 => ?_) (fun hP m3 hk3 => ?_))
      rotate_left
      · have d2 : ¬ (1 : Int) = 0 := by decide
        simp -implicitDefEqProofs only [aExt, simpS, Nat.reduceAdd, d2, decide_false, Bool.false_eq_true, if_false]
        exact back3_ok (hKa hk3) (hba hk3) (hpa hk3) hl4' hl15'
      have hfew := fit_few hP.1
      simp -implicitDefEqProofs only [aExt, simpS, Nat.reduceAdd, decide_true, if_true]
      refine Ok.bnd (get_spec (getS_back hP) (hKa hk3) (hba hk3) (hpa hk3) hl4' hl15' fun m4 u hS4 hu => ?_)
      have hk4 : Kept (fun b => b < m2.next) m2 m4 := hk3.trans (hS4.kept fun b hb => Nat.lt_of_lt_of_le hb hk3.next)
      have hst4 := fun (k : Nat → AV → M AV) => ok_storeAll (i := m4.next) (k := k) (Q := fun v _ => v = .bool true) (vs := frameC f u) (n := 5) (Mem.get_alloc m4 (.cells T_api_Frame 0 [.bool false, .bool false, .bool false, .int .i64 0, .nilslice])) (hba hk4) rfl rfl (by simp [frameC, SlR.one hu])
      have d0 : ¬ (0 : Int) ≠ 0 := by decide
      simp -implicitDefEqProofs only [aExt, simpS, Nat.reduceAdd, ok_alloc, hst4, Mem.alloc_set, d0, decide_false, Bool.false_eq_true, if_false]
      have hS5 := Same.alloc m4 (.cells T_api_Frame 0 (frameC f u))
      have hg13 := Mem.get_alloc m4 (.cells T_api_Frame 0 (frameC f u))
      have hnx5 : (m4.alloc (.cells T_api_Frame 0 (frameC f u))).next = m4.next + 1 := rfl
      generalize m4.alloc (.cells T_api_Frame 0 (frameC f u)) = m5 at *
      have hn34 := hS4.next
      have hn23 := hk3.next
      have hk5 : Kept (fun b => b < m2.next) m2 m5 := hk4.trans (hS5.kept fun b hb => by omega)
      have l13 : load? (some 5) (.ptr m4.next 0) m5 = some (.agg (frameC f u)) := by rw [load_at' hg13]; rfl
      have hg55 := (hk5.get m.next (by omega)).trans hg2
      have l5 : load? (some 5) (.ptr m.next 0) m5 = some (.agg (frameC f v)) := by rw [load_at' hg55]; rfl
      simp -implicitDefEqProofs only [l13, l5, Option.some.injEq, exists_eq_left']
      refine Ok.bnd (same20_ok (hu.keep (m' := m5) fun b hb => hS5.get hb.2) (hva hk5) (fun b hb => by omega) (hKa hk5) hfew fun m6 hS6 => ?_)
      have hk6 : Kept (fun b => b < m2.next) m2 m6 := hk5.trans (hS6.kept fun b hb => by have := hk5.next; omega)
      have hg56 := (hS6.get (by have := hk5.next; omega)).trans hg55
      have hbm6 : m6.base ≤ m.next := by rw [hk6.base, hS12.base]; exact hbn
      unfold frameC at hg56
      have hst6 := fun (k : Nat → AV → M AV) => ok_store (k := k) (Q := fun v _ => v = .bool true) (o := 2) (v := .bool true) hg56 hbm6 (Nat.zero_le _) (by simp) (by simp)
      simp -implicitDefEqProofs only [simpS, Nat.reduceAdd, Bool.not_true, law22_CodeBack_j1, Bool.false_eq_true, if_false, hst6]
      -- the frame, turned Intra
      have hcs := Chg.set m6 m.next (.cells T_api_Frame 0 (frameC (intraD f) v))
      have hcs0 : m6.set m.next (.cells T_api_Frame 0 [.bool f.short, .bool f.side, .bool true, .int .i64 f.gain, v]) = m6.set m.next (.cells T_api_Frame 0 (frameC (intraD f) v)) := rfl
      have hg7 := Mem.get_set m6 m.next (.cells T_api_Frame 0 (frameC (intraD f) v))
      rw [hcs0]
      have hnn7 : (m6.set m.next (.cells T_api_Frame 0 (frameC (intraD f) v))).next = m6.next := rfl
      have hbb7 : (m6.set m.next (.cells T_api_Frame 0 (frameC (intraD f) v))).base = m6.base := rfl
      have hv7 : ChansR K (m6.set m.next (.cells T_api_Frame 0 (frameC (intraD f) v))) v (intraD f).chans := (hva hk6).keep fun b hb => hcs.get b (hKa hk6 b hb) (by have := hK b hb; omega)
      have hp7 : RowsR K (m6.set m.next (.cells T_api_Frame 0 (frameC (intraD f) v))) vp p := (hpa hk6).keep fun b hb => hcs.get b (hKa hk6 b hb) (by have := hK b hb; omega)
      have hK7 : ∀ b, K b → b < (m6.set m.next (.cells T_api_Frame 0 (frameC (intraD f) v))).next := fun b hb => by rw [hnn7]; exact hKa hk6 b hb
      have hb7 : (m6.set m.next (.cells T_api_Frame 0 (frameC (intraD f) v))).base ≤ (m6.set m.next (.cells T_api_Frame 0 (frameC (intraD f) v))).next := by rw [hbb7, hnn7]; exact hba hk6
      have hn6 : m.next < (m6.set m.next (.cells T_api_Frame 0 (frameC (intraD f) v))).next := by rw [hnn7]; have := hk6.next; omega
      generalize m6.set m.next (.cells T_api_Frame 0 (frameC (intraD f) v)) = m7 at *
      have l7 : load? (some 5) (.ptr m.next 0) m7 = some (.agg (frameC (intraD f) v)) := by rw [load_at' hg7]; rfl
      have hPI := put_intra hP []
      have hPIp := put_intra hP p
      have hfr : frameP (intraD f) n q [] = frameP (intraD f) n q p := frameP_intra rfl _ _
      simp -implicitDefEqProofs only [l7, Option.some.injEq, exists_eq_left']
      refine Ok.bnd (put_ok (K := fun b => b < m7.next) (f := intraD f) (p := []) (hv7.mono fun b hb => hK7 b hb) (fun b hb => hb) hb7 (.inl ⟨.inl rfl, rfl⟩) (Nat.zero_le _) (fun r hr => by simp at hr) (fun _ m8 hk8 => ?_) (fun h => absurd hPI h))
      rw [hfr]
      have hn78 := hk8.next
      have hb78 := hk8.base
      have hp8 := hp7.keep (m' := m8) fun b hb => hk8.get b (hK7 b hb)
      have hK8 : ∀ b, K b → b < m8.next := fun b hb => Nat.lt_of_lt_of_le (hK7 b hb) hn78
      have hb8 : m8.base ≤ m8.next := by omega
      simp -implicitDefEqProofs only [aExt, simpS, Nat.reduceAdd]
      refine Ok.bnd (get_spec (getS_back hPIp) hK8 hb8 hp8 hl4' hl15' fun m9 w hS9 hw => ?_)
      have hst9 := fun (k : Nat → AV → M AV) => ok_storeAll (i := m9.next) (k := k) (Q := fun v _ => v = .bool true) (vs := frameC (intraD f) w) (n := 5) (Mem.get_alloc m9 (.cells T_api_Frame 0 [.bool false, .bool false, .bool false, .int .i64 0, .nilslice])) (hS9.bn hb8) rfl rfl (by simp [frameC, SlR.one hw])
      simp -implicitDefEqProofs only [aExt, simpS, Nat.reduceAdd, ok_alloc, hst9, Mem.alloc_set, d0, decide_false, Bool.false_eq_true, if_false]
      have hS10 := Same.alloc m9 (.cells T_api_Frame 0 (frameC (intraD f) w))
      have hg17 := Mem.get_alloc m9 (.cells T_api_Frame 0 (frameC (intraD f) w))
      have hnx10 : (m9.alloc (.cells T_api_Frame 0 (frameC (intraD f) w))).next = m9.next + 1 := rfl
      generalize m9.alloc (.cells T_api_Frame 0 (frameC (intraD f) w)) = m10 at *
      have hn9 := hS9.next
      have hS810 := hS9.trans hS10
      have l17 : load? (some 5) (.ptr m9.next 0) m10 = some (.agg (frameC (intraD f) w)) := by rw [load_at' hg17]; rfl
      have l10 : load? (some 5) (.ptr m.next 0) m10 = some (.agg (frameC (intraD f) v)) := by
        rw [load_at' ((hS810.get (by omega)).trans ((hk8.get m.next hn6).trans hg7))]; rfl
      have hv10 := (hv7.keep (m' := m8) fun b hb => hk8.get b (hK7 b hb)).keep (m' := m10) fun b hb => hS810.get (hK8 b hb)
      simp -implicitDefEqProofs only [l17, l10, Option.some.injEq, exists_eq_left']
      refine Ok.bnd (same20_ok (hw.keep (m' := m10) fun b hb => hS10.get hb.2) hv10 (fun b hb => by omega) (fun b hb => by have := hK8 b hb; omega) hfew fun m11 hS11 => ?_)
      simp -implicitDefEqProofs only [simpS, Nat.reduceAdd, Bool.not_true, law22_CodeBack_j2, Bool.false_eq_true, if_false]
      have hS811 := hS810.trans hS11
      exact back3_ok (fun b hb => Nat.lt_of_lt_of_le (hK8 b hb) hS811.next) (hS811.bn hb8) (hp8.keep (m' := m11) fun b hb => hS811.get (hK8 b hb)) hl4' hl15'
end SplA

/- Frames as arguments. -/
namespace SplA
open Go.Proofs.YtooogfnmhfocjaaDoor.Spl Go Go.Proofs Go.RowKit
set_option linter.unusedVariables false
set_option linter.unusedSimpArgs false
variable {H : Type} {enc : TypeId × Value → H} {P : Program} {W : World} {sp : Nat → Bool} {hd : Bool}

theorem field_at {fs : Array Field} {L : List (TypeId × Nat)} (h : fs.toList.map (fun f => (f.type, f.offset)) = L) {j : Nat} {t : TypeId} {o : Nat} (hj : L[j]? = some (t, o)) : ∃ f, fs.toList[j]? = some f ∧ f.type = t ∧ f.offset = o := by
  rw [← h, List.getElem?_map] at hj
  obtain ⟨f, h1, h2⟩ := Option.map_eq_some_iff.1 hj
  exact ⟨f, h1, congrArg Prod.fst h2, congrArg Prod.snd h2⟩

theorem trod_band {fuel : Nat} {t ti tp : TypeId} {fs : Array Field} {cs : List Value} {x : DataW H × List MemPlace} (ht : P.underlying t = some (.struct fs)) (hfs : fs.toList.map (fun f => (f.type, f.offset)) = [(ti, 0), (ti, 1), (tp, 2)]) (hi : P.underlying ti = some (.int .i64)) (hp : P.underlying tp = some (.slice ti)) (hci : P.cellsOf ti = 1) (hcp : P.cellsOf tp = 1) (hc : P.cellsOf t = 3)
    (h : DataW.trod enc P W 0 sp hd fuel t cs = some x) : ∃ b : BandD, RBand (fun b => b < W.heap.size) (mirror W) (cs.map (conv1 W.heap.size)) b := by
  obtain ⟨hl, fuel', hall⟩ := trod_fields ht h
  obtain ⟨f0, g0, e0, o0⟩ := field_at hfs (j := 0) rfl
  obtain ⟨f1, g1, e1, o1⟩ := field_at hfs (j := 1) rfl
  obtain ⟨f2, g2, e2, o2⟩ := field_at hfs (j := 2) rfl
  obtain ⟨y0, h0⟩ := hall 0 f0 g0
  obtain ⟨y1, h1⟩ := hall 1 f1 g1
  obtain ⟨y2, h2⟩ := hall 2 f2 g2
  rw [e0, o0, hci] at h0
  rw [e1, o1, hci] at h1
  rw [e2, o2, hcp] at h2
  rw [hc] at hl
  match cs, hl with
  | [c0, c1, c2], _ =>
    obtain ⟨n0, k0, w0⟩ := trod_int' hi h0
    obtain ⟨n1, k1, w1⟩ := trod_int' hi h1
    obtain ⟨c, l, k2, _, _, hL⟩ := trod_ints_slice hp hi hci h2
    simp -implicitDefEqProofs only [List.drop_succ_cons, List.drop_zero, List.take_succ_cons, List.take_zero, List.cons.injEq, and_true] at k0 k1 k2
    subst k0 k1 k2
    exact ⟨⟨n0, n1, l⟩, conv1 W.heap.size c2, rfl, w0, w1, hL⟩
theorem trod_chan {fuel : Nat} {t tb : TypeId} {fs : Array Field} {cs : List Value} {x : DataW H × List MemPlace} (ht : P.underlying t = some (.struct fs)) (hfs : fs.toList.map (fun f => (f.type, f.offset)) = [(tb, 0)]) (hc : P.cellsOf t = 1) (hcb : P.cellsOf tb = 1)
    {te ti tp : TypeId} {fe : Array Field} (htb : P.underlying tb = some (.slice te)) (hte : P.underlying te = some (.struct fe)) (hfe : fe.toList.map (fun f => (f.type, f.offset)) = [(ti, 0), (ti, 1), (tp, 2)]) (hi : P.underlying ti = some (.int .i64)) (hp : P.underlying tp = some (.slice ti)) (hci : P.cellsOf ti = 1) (hcp : P.cellsOf tp = 1) (hce : P.cellsOf te = 3)
    (h : DataW.trod enc P W 0 sp hd fuel t cs = some x) : ∃ c : List BandD, RSl (BandsR (fun b => b < W.heap.size)) (mirror W) (cs.map (conv1 W.heap.size)) c := by
  obtain ⟨hl, fuel', hall⟩ := trod_fields ht h
  obtain ⟨f0, g0, e0, o0⟩ := field_at hfs (j := 0) rfl
  obtain ⟨y0, h0⟩ := hall 0 f0 g0
  rw [e0, o0, hcb] at h0
  rw [hc] at hl
  match cs, hl with
  | [c0], _ =>
    obtain ⟨c, l, k, _, _, hL⟩ := trod_slice (α := BandD) (R := RBand (fun b => b < W.heap.size)) htb (by omega) (fun fuel cs x hl hx => trod_band hte hfe hi hp hci hcp hce hx) h0
    simp -implicitDefEqProofs only [List.drop_succ_cons, List.drop_zero, List.take_succ_cons, List.take_zero, List.cons.injEq, and_true] at k
    subst k
    rw [hce] at hL
    exact ⟨l, conv1 W.heap.size c0, rfl, hL⟩
theorem frame_arg {v : Value} {d : DataW H} {ps : List MemPlace} {t tb tl : TypeId} {fs : Array Field} (ht : P.underlying t = some (.struct fs)) {ti : TypeId} (hfs : fs.toList.map (fun f => (f.type, f.offset)) = [(tb, 0), (tb, 1), (tb, 2), (ti, 3), (tl, 4)]) (hc : P.cellsOf t = 5) (hbo : P.underlying tb = some .bool) (hcb : P.cellsOf tb = 1) (hi : P.underlying ti = some (.int .i64)) (hci : P.cellsOf ti = 1) (hcl : P.cellsOf tl = 1)
    {tc tbs te tp : TypeId} {fc fe : Array Field} (htl : P.underlying tl = some (.slice tc)) (htc : P.underlying tc = some (.struct fc)) (hfc : fc.toList.map (fun f => (f.type, f.offset)) = [(tbs, 0)]) (hcc : P.cellsOf tc = 1) (hcbs : P.cellsOf tbs = 1)
    (htb : P.underlying tbs = some (.slice te)) (hte : P.underlying te = some (.struct fe)) (hfe : fe.toList.map (fun f => (f.type, f.offset)) = [(ti, 0), (ti, 1), (tp, 2)]) (hp : P.underlying tp = some (.slice ti)) (hcp : P.cellsOf tp = 1) (hce : P.cellsOf te = 3)
    (h : DataW.Trod enc P W 0 sp hd t v d ps) : ∃ (f : FrameD) (w : AV), conv W.heap.size v = .agg (frameC f w) ∧ ChansR (fun b => b < W.heap.size) (mirror W) w f.chans := by
  obtain ⟨fuel, h⟩ := h
  obtain ⟨hl, fuel', hall⟩ := trod_fields ht h
  obtain ⟨f0, g0, e0, o0⟩ := field_at hfs (j := 0) rfl
  obtain ⟨f1, g1, e1, o1⟩ := field_at hfs (j := 1) rfl
  obtain ⟨f2, g2, e2, o2⟩ := field_at hfs (j := 2) rfl
  obtain ⟨f3, g3, e3, o3⟩ := field_at hfs (j := 3) rfl
  obtain ⟨f4, g4, e4, o4⟩ := field_at hfs (j := 4) rfl
  obtain ⟨y0, h0⟩ := hall 0 f0 g0
  obtain ⟨y1, h1⟩ := hall 1 f1 g1
  obtain ⟨y2, h2⟩ := hall 2 f2 g2
  obtain ⟨y3, h3⟩ := hall 3 f3 g3
  obtain ⟨y4, h4⟩ := hall 4 f4 g4
  rw [e0, o0, hcb] at h0
  rw [e1, o1, hcb] at h1
  rw [e2, o2, hcb] at h2
  rw [e3, o3, hci] at h3
  rw [e4, o4, hcl] at h4
  rw [hc] at hl
  have hv : ∀ l : List Value, v.cells.toList = l → l.length = 5 → v = .agg l.toArray := by
    intro l h1 h2
    cases v <;> first | (simp -implicitDefEqProofs only [Value.cells] at h1; subst h1; simp at h2; done) | (simp -implicitDefEqProofs only [Value.cells] at h1; subst h1; simp)
  generalize hcs : v.cells.toList = cs at *
  match cs, hl with
  | [c0, c1, c2, c3, c4], hl =>
    obtain ⟨n0, k0⟩ := trod_bool hbo h0
    obtain ⟨n1, k1⟩ := trod_bool hbo h1
    obtain ⟨n2, k2⟩ := trod_bool hbo h2
    obtain ⟨n3, k3, w3⟩ := trod_int' hi h3
    obtain ⟨c, l, k4, _, _, hL⟩ := trod_slice (α := List BandD) (R := RSl (BandsR (fun b => b < W.heap.size))) htl (by omega) (fun fuel cs x hl hx => trod_chan htc hfc hcc hcbs htb hte hfe hi hp hci hcp hce hx) h4
    simp -implicitDefEqProofs only [List.drop_succ_cons, List.drop_zero, List.take_succ_cons, List.take_zero, List.cons.injEq, and_true] at k0 k1 k2 k3 k4
    subst k0 k1 k2 k3 k4
    rw [hcc] at hL
    rw [hv _ rfl rfl]
    exact ⟨⟨n0, n1, n2, n3, l⟩, conv1 W.heap.size c4, rfl, hL⟩
theorem rows_arg {v : Value} {d : DataW H} {ps : List MemPlace} {t e u : TypeId} (hna : ∀ cs, v ≠ .agg cs) (ht : P.underlying t = some (.slice e)) (he : P.underlying e = some (.slice u)) (hu : P.underlying u = some (.int .i64)) (hce : P.cellsOf e = 1) (hcu : P.cellsOf u = 1)
    (h : DataW.Trod enc P W 0 sp hd t v d ps) : ∃ l, l.length ≤ maxLen ∧ RowsR (fun b => b < W.heap.size) (mirror W) (conv W.heap.size v) l := by
  obtain ⟨fuel, h⟩ := h
  generalize hcs : v.cells.toList = cs at h
  obtain ⟨c, l, rfl, _, h1, h2⟩ := trod_rows ht he hu hce hcu h
  exact ⟨l, h1, by rw [arg_slice hcs rfl hna]; exact h2⟩
end SplA

/- The abstract machine, 22: what a closed call makes, it makes in every memory. -/
namespace Go.Proofs.YtooogfnmhfocjaaDoor.Spl
open Go Go.RowKit
set_option linter.unusedVariables false
set_option linter.unusedSimpArgs false

mutual
/-- A value, its objects k further on. -/
def AV.shift (k : Nat) : AV → AV
  | .ptr i o => .ptr (i + k) o
  | .slice i o l e => .slice (i + k) o l e
  | .func fn a c => .func fn (AV.shifts k a) (AV.shifts k c)
  | .iface t v => .iface t (AV.shift k v)
  | .agg cs => .agg (AV.shifts k cs)
  | .tup cs => .tup (AV.shifts k cs)
  | .mp i => .mp (i + k)
  | .undef => .undef
  | .bool b => .bool b
  | .int k n => .int k n
  | .str s => .str s
  | .nilptr => .nilptr
  | .anyptr => .anyptr
  | .nilslice => .nilslice
  | .dang => .dang
  | .nilfunc => .nilfunc
  | .nilface => .nilface
def AV.shifts (k : Nat) : List AV → List AV
  | [] => []
  | v :: vs => AV.shift k v :: AV.shifts k vs
end
theorem AV.shifts_length (k : Nat) : ∀ l : List AV, (AV.shifts k l).length = l.length
  | [] => rfl
  | v :: l => by simp [AV.shifts, AV.shifts_length k l]
def AObj.shift (k : Nat) : AObj → AObj
  | .dead => .dead
  | .cells ty fz cs => .cells ty fz (AV.shifts k cs)
  | .other o => .other o
/-- A memory, and behind it another one. -/
def Mem.add (m m0 : Mem) : Mem := ⟨m.base, m.next + m0.next, fun j => if j < m.next then m.get j else (m0.get (j - m.next)).shift m.next⟩
def Gm.add (g : Gm) (n : Nat) (g0 : Gm) : Gm := ⟨g.base, fun j => if j < n then g.blk j else g0.blk (j - n), fun j => if j < n then g.sz j else g0.sz (j - n)⟩
theorem Gm.add_ext (g : Gm) (n : Nat) (g0 : Gm) (n0 : Nat) : Ext' g n (g.add n g0) (n + n0) :=
  ⟨rfl, Nat.le_add_right _ _, fun i hi => by simp [Gm.add, hi], fun i hi => by simp [Gm.add, hi]⟩

mutual
theorem VR.shift {g g0 : Gm} {n n0 : Nat} (hb : g0.base = 0) : ∀ {v : AV} {x : Value}, VR g0 n0 v x → VR (g.add n g0) (n + n0) (v.shift n) x
  | _, _, .undef v => .undef v
  | _, _, .bool b => .bool b
  | _, _, .int k x => .int k x
  | _, _, .str s => .str s
  | _, _, .nilptr => .nilptr
  | _, _, .ptr i o h => by
    have e : (g.add n g0).blk (i + n) = g0.blk i := by simp [Gm.add, Nat.not_lt.2 (Nat.le_add_left n i)]
    have := VR.ptr (g := g.add n g0) (n := n + n0) (i + n) o (by omega)
    rw [e] at this
    exact this
  | _, _, .anyptr p => .anyptr p
  | _, _, .nilslice => .nilslice
  | _, _, .slice i o len es cap h hc hs => by
    have e : (g.add n g0).blk (i + n) = g0.blk i := by simp [Gm.add, Nat.not_lt.2 (Nat.le_add_left n i)]
    have e2 : (g.add n g0).sz (i + n) = g0.sz i := by simp [Gm.add, Nat.not_lt.2 (Nat.le_add_left n i)]
    have := VR.slice (g := g.add n g0) (n := n + n0) (i + n) o len es cap (by omega) hc (fun _ h2 => by rw [e2]; exact hs (by omega) h2)
    rw [e] at this
    exact this
  | _, _, .dang a cap => .dang a cap
  | _, _, .func fn a c x y ha hc => .func fn _ _ x y (VRs.shift hb ha) (VRs.shift hb hc)
  | _, _, .nilfunc => .nilfunc
  | _, _, .iface t v x h => .iface t _ x (VR.shift hb h)
  | _, _, .nilface => .nilface
  | _, _, .agg cs xs h => .agg _ xs (VRs.shift hb h)
  | _, _, .tup cs xs h => .tup _ xs (VRs.shift hb h)
  | _, _, .mp i h => by
    have e : (g.add n g0).blk (i + n) = g0.blk i := by simp [Gm.add, Nat.not_lt.2 (Nat.le_add_left n i)]
    have := VR.mp (g := g.add n g0) (n := n + n0) (i + n) (by omega)
    rw [e] at this
    exact this
theorem VRs.shift {g g0 : Gm} {n n0 : Nat} (hb : g0.base = 0) : ∀ {v : List AV} {x : List Value}, VRs g0 n0 v x → VRs (g.add n g0) (n + n0) (AV.shifts n v) x
  | _, _, .nil => .nil
  | _, _, .cons v x vs xs h t => .cons _ x _ xs (VR.shift hb h) (VRs.shift hb t)
end

theorem Sim.add {W : Ref} {g g0 : Gm} {m m0 : Mem} {w w' : World} (s : Sim W g m w) (s0 : Sim (Ref.all w) g0 m0 w') (hb : m0.base = 0) : Sim W (g.add m.next g0) (m.add m0) w' := by
  have hg0 : g0.base = 0 := s0.gbase.trans hb
  have hsz : w.heap.size ≤ w'.heap.size := s0.below.size
  have hold : ∀ b, b < w.heap.size → w'.heap[b]? = w.heap[b]? := fun b hb => s0.below.block b hb
  have hext := g.add_ext m.next g0 m0.next
  have hblk : ∀ i, i < m.next → (g.add m.next g0).blk i = g.blk i := fun i hi => by simp [Gm.add, hi]
  have hblk' : ∀ i, m.next ≤ i → (g.add m.next g0).blk i = g0.blk (i - m.next) := fun i hi => by simp [Gm.add, Nat.not_lt.2 hi]
  have hget : ∀ i, i < m.next → (m.add m0).get i = m.get i := fun i hi => by simp [Mem.add, hi]
  have hget' : ∀ i, m.next ≤ i → (m.add m0).get i = (m0.get (i - m.next)).shift m.next := fun i hi => by simp [Mem.add, Nat.not_lt.2 hi]
  have hlow : ∀ i, m.base ≤ i → i < m.next → g.blk i < w.heap.size := fun i h1 h2 => (s.own i h1 h2).2
  have hhigh : ∀ i, i < m0.next → w.heap.size ≤ g0.blk i ∧ g0.blk i < w'.heap.size := fun i h => by
    obtain ⟨h1, h2⟩ := s0.own i (by omega) h
    exact ⟨Nat.not_lt.1 h1, h2⟩
  refine ⟨s.gbase, Nat.le_trans s.mbase hsz, by show m.base ≤ m.next + m0.next; have := s.le; omega, ?_, ?_, ?_, ?_, ?_, ?_⟩
  · exact s.below.trans ⟨s0.below.os, s0.below.tape, s0.below.output, hsz, fun k hk => hold k (s.below.lt hk)⟩
  · intro i hi
    have hi' : i < m.base := hi
    have hin : i < m.next := Nat.lt_of_lt_of_le hi' s.le
    obtain ⟨h1, h2⟩ := s.old i hi'
    refine ⟨(hblk i hin).trans h1, fun ty fz cs hg => ?_⟩
    rw [hget i hin] at hg
    obtain ⟨hS, c, e, f, h3, h4, h5⟩ := h2 _ _ _ hg
    exact ⟨hS, c, e, f, h3, h4, h5.mono hext⟩
  · intro i h1 h2
    have h1' : m.base ≤ i := h1
    have h2' : i < m.next + m0.next := h2
    rcases Nat.lt_or_ge i m.next with hi | hi
    · rw [hblk i hi]
      exact ⟨(s.own i h1' hi).1, Nat.lt_of_lt_of_le (s.own i h1' hi).2 hsz⟩
    · rw [hblk' i hi]
      obtain ⟨k1, k2⟩ := hhigh (i - m.next) (by omega)
      exact ⟨fun hS => by have := s.below.lt hS; omega, k2⟩
  · intro i ty fz cs h1 h2 h3
    have h1' : m.base ≤ i := h1
    have h2' : i < m.next + m0.next := h2
    rcases Nat.lt_or_ge i m.next with hi | hi
    · rw [hget i hi] at h3
      obtain ⟨c, lo, hi', k1, k2, k3, k4, k5⟩ := s.live i _ _ _ h1' hi h3
      refine ⟨c, lo, hi', ?_, ?_, k3, k4, k5.mono hext⟩
      · rw [hblk i hi, hold _ (hlow i h1' hi)]; exact k1
      · rw [k2]; simp [Gm.add, hi]
    · rw [hget' i hi] at h3
      cases hm : m0.get (i - m.next) with
      | dead => rw [hm] at h3; cases h3
      | other o => rw [hm] at h3; cases h3
      | cells ty0 fz0 cs0 =>
        rw [hm] at h3
        cases h3
        obtain ⟨c, lo, hi', k1, k2, k3, k4, k5⟩ := s0.live (i - m.next) _ _ _ (by omega) (by omega) hm
        refine ⟨c, lo, hi', ?_, ?_, by rw [AV.shifts_length]; exact k3, by rw [AV.shifts_length]; exact k4, ?_⟩
        · rw [hblk' i hi]; exact k1
        · rw [k2]; simp [Gm.add, Nat.not_lt.2 hi]
        · rw [AV.shifts_length]
          exact VRs.shift hg0 k5
  · intro i o h1 h2 h3
    have h1' : m.base ≤ i := h1
    have h2' : i < m.next + m0.next := h2
    rcases Nat.lt_or_ge i m.next with hi | hi
    · rw [hget i hi] at h3
      rw [hblk i hi, hold _ (hlow i h1' hi)]
      exact s.raw i o h1' hi h3
    · rw [hget' i hi] at h3
      rw [hblk' i hi]
      cases hm : m0.get (i - m.next) with
      | dead => rw [hm] at h3; cases h3
      | cells ty0 fz0 cs0 => rw [hm] at h3; cases h3
      | other o' =>
        rw [hm] at h3
        cases h3
        exact s0.raw (i - m.next) _ (by omega) (by omega) hm
  · intro i j a1 a2 a3 a4 a5 a6 a7
    have b1 : m.base ≤ i := a1
    have b2 : i < m.next + m0.next := a2
    have b3 : m.base ≤ j := a3
    have b4 : j < m.next + m0.next := a4
    have hlive : ∀ k, m.next ≤ k → (m.add m0).get k ≠ .dead → m0.get (k - m.next) ≠ .dead := fun k hk h e => by
      rw [hget' k hk, e] at h
      exact h rfl
    rcases Nat.lt_or_ge i m.next with hi | hi <;> rcases Nat.lt_or_ge j m.next with hj | hj
    · rw [hblk i hi, hblk j hj] at a7
      rw [hget i hi] at a5
      rw [hget j hj] at a6
      exact s.inj i j b1 hi b3 hj a5 a6 a7
    · rw [hblk i hi, hblk' j hj] at a7
      have := hlow i b1 hi
      have := (hhigh (j - m.next) (by omega)).1
      omega
    · rw [hblk' i hi, hblk j hj] at a7
      have := hlow j b3 hj
      have := (hhigh (i - m.next) (by omega)).1
      omega
    · rw [hblk' i hi, hblk' j hj] at a7
      have := s0.inj (i - m.next) (j - m.next) (by omega) (by omega) (by omega) (by omega) (hlive i hi a5) (hlive j hj a6) a7
      omega

/-- What a call of closed arguments came to, in every memory. -/
def closedAt (args0 : List AV) (v : AV) (m0 : Mem) : List AV → M AV := fun args m => if AV.eqbs args args0 then some (v.shift m.next, m.add m0) else none
/-- .. of several arguments, each by itself. -/
def closedOf (l : List (List AV × AV × Mem)) : List AV → M AV := fun args m =>
  match l.find? (fun x => AV.eqbs args x.1) with
  | some x => some (x.2.1.shift m.next, m.add x.2.2)
  | none => none
def isInt : AV → Bool
  | .int _ _ | .bool _ | .str _ => true
  | _ => false
theorem ints_rel {g : Gm} {n : Nat} : ∀ {l : List AV} {xs : List Value}, VRs g n l xs → l.all isInt = true → ∀ g' n', VRs g' n' l xs
  | _, _, .nil, _, g', n' => .nil
  | _, _, .cons v x vs xs hv ht, h, g', n' => by
    simp only [List.all_cons, Bool.and_eq_true] at h
    refine .cons _ _ _ _ ?_ (ints_rel ht h.2 g' n')
    obtain ⟨h, _⟩ := h
    cases hv <;> simp [isInt] at h <;> constructor
theorem closedOf_ok {P : Program} {ext : Ext} (hm : P.follows .mixedOrders = true) (hn : ∀ (f : Nat) (fn : Func), P.funcs[f]? = some fn → fn.name ≠ "runtime.NumGoroutine") (hext : ∀ W, ExtOk P W ext) {n f : Nat} {l : List (List AV × AV × Mem)}
    (h : ∀ x ∈ l, fcall P ext n f x.1 Mem.empty = some (x.2.1, x.2.2) ∧ x.1.all isInt = true ∧ x.2.2.base = 0) (W : Ref) : FunOk P W f (closedOf l) := by
  intro args v m m1 he g w xs s hx
  unfold closedOf at he
  split at he
  · rename_i x hfind
    cases he
    obtain ⟨h1, h2, h3⟩ := h x (List.mem_of_find?_eq_some hfind)
    obtain rfl : args = x.1 := AV.eq_of_eqbs (by have := List.find?_some hfind; simpa using this)
    rcases fcall_ok hm hn hext n (Ref.all w) f x.1 x.2.1 Mem.empty x.2.2 h1 _ w xs (sim_empty w) (ints_rel hx h2 _ _) with ⟨⟨fn, k1, k2, _⟩, k3⟩ | ⟨z, g', w', k1, k2, k3, k4⟩
    · refine .inl ⟨⟨fn, k1, k2⟩, k3.mono fun e w' ⟨z, g', he, hz, hs, hx'⟩ => ⟨z, g.add m.next g', he, ?_, s.add hs h3, g.add_ext _ _ _⟩⟩
      exact VR.shift (hs.gbase.trans h3) hz
    · exact .inr ⟨z, g.add m.next g', w', k1, VR.shift (k3.gbase.trans h3) k2, s.add k3 h3, g.add_ext _ _ _⟩
  · cases he
theorem Mem.add_get (m m0 : Mem) (i : Nat) : (m.add m0).get (i + m.next) = (m0.get i).shift m.next := by simp [Mem.add, Nat.not_lt.2 (Nat.le_add_left m.next i)]
theorem Mem.add_old (m m0 : Mem) {i : Nat} (h : i < m.next) : (m.add m0).get i = m.get i := by simp [Mem.add, h]
/-! a closed call whose memory is told in plain -/

theorem Sim.congr {W : Ref} {g : Gm} {m m' : Mem} {w : World} (s : Sim W g m w) (hb : m'.base = m.base) (hn : m'.next = m.next) (hg : ∀ i, i < m.next → m'.get i = m.get i) : Sim W g m' w where
  gbase := by rw [hb]; exact s.gbase
  mbase := by rw [hb]; exact s.mbase
  le := by rw [hb, hn]; exact s.le
  below := s.below
  old := fun i hi => by
    rw [hb] at hi
    rw [hg i (Nat.lt_of_lt_of_le hi s.le), hn]
    exact s.old i hi
  own := fun i h1 h2 => by rw [hb] at h1; rw [hn] at h2; exact s.own i h1 h2
  live := fun i ty fz cs h1 h2 h3 => by
    rw [hb] at h1; rw [hn] at h2 ⊢; rw [hg i h2] at h3
    exact s.live i ty fz cs h1 h2 h3
  raw := fun i o h1 h2 h3 => by
    rw [hb] at h1; rw [hn] at h2; rw [hg i h2] at h3
    exact s.raw i o h1 h2 h3
  inj := fun i j a1 a2 a3 a4 a5 a6 a7 => by
    rw [hb] at a1 a3; rw [hn] at a2 a4; rw [hg i a2] at a5; rw [hg j a4] at a6
    exact s.inj i j a1 a2 a3 a4 a5 a6 a7

def AObj.eqb : AObj → AObj → Bool
  | .dead, .dead => true
  | .cells ty fz cs, .cells ty' fz' cs' => Nat.beq ty ty' && Nat.beq fz fz' && AV.eqbs cs cs'
  | _, _ => false
theorem AObj.eq_of_eqb {a b : AObj} (h : AObj.eqb a b = true) : a = b := by
  unfold AObj.eqb at h
  split at h
  · rfl
  · simp only [Bool.and_eq_true, Nat.beq_eq] at h
    obtain ⟨⟨rfl, rfl⟩, h⟩ := h
    rw [AV.eq_of_eqbs h]
  · cases h
/-- A memory of objects, one behind the other. -/
def Mem.of (l : List AObj) : Mem := ⟨0, l.length, fun i => l.getD i .dead⟩
def objsEq (m : Mem) : Nat → List AObj → Bool
  | _, [] => true
  | i, o :: os => AObj.eqb (m.get i) o && objsEq m (i + 1) os
theorem objsEq_get {m : Mem} : ∀ {l : List AObj} {i : Nat}, objsEq m i l = true → ∀ j, j < l.length → l.getD j .dead = m.get (i + j)
  | [], i, _, j, hj => by simp at hj
  | o :: os, i, h, j, hj => by
    simp only [objsEq, Bool.and_eq_true] at h
    cases j with
    | zero => simpa using (AObj.eq_of_eqb h.1).symm
    | succ j =>
      have := objsEq_get h.2 j (by simpa using hj)
      rw [show i + (j + 1) = i + 1 + j by omega]
      simpa using this
/-- Does a run come to that value, and those objects? -/
def comesTo (x : Option (AV × Mem)) (v : AV) (l : List AObj) : Bool :=
  match x with
  | some (u, m) => AV.eqb u v && Nat.beq m.base 0 && Nat.beq m.next l.length && objsEq m 0 l
  | none => false
theorem closedTo_ok {P : Program} {ext : Ext} (hm : P.follows .mixedOrders = true) (hn : ∀ (f : Nat) (fn : Func), P.funcs[f]? = some fn → fn.name ≠ "runtime.NumGoroutine") (hext : ∀ W, ExtOk P W ext) {n f : Nat} {l : List (List AV × AV × List AObj)}
    (h : ∀ x ∈ l, comesTo (fcall P ext n f x.1 Mem.empty) x.2.1 x.2.2 = true ∧ x.1.all isInt = true) (W : Ref) : FunOk P W f (closedOf (l.map fun x => (x.1, x.2.1, Mem.of x.2.2))) := by
  intro args v m m1 he g w xs s hx
  unfold closedOf at he
  split at he
  · rename_i y hfind
    cases he
    have hmem := List.mem_of_find?_eq_some hfind
    obtain ⟨x, hxm, rfl⟩ := List.mem_map.1 hmem
    obtain ⟨h1, h2⟩ := h x hxm
    obtain rfl : args = x.1 := AV.eq_of_eqbs (by have := List.find?_some hfind; simpa using this)
    unfold comesTo at h1
    split at h1
    · rename_i u mr hrun
      simp only [Bool.and_eq_true, Nat.beq_eq] at h1
      obtain ⟨⟨⟨hu, hb⟩, hnx⟩, hob⟩ := h1
      obtain rfl := AV.eq_of_eqb hu
      have hcg : ∀ {g' w'}, Sim (Ref.all w) g' mr w' → Sim (Ref.all w) g' (Mem.of x.2.2) w' := fun hs => hs.congr (by rw [hb]; rfl) (by rw [hnx]; rfl) (fun i hi => by
        have := objsEq_get hob i (by rw [← hnx]; exact hi)
        rw [Nat.zero_add] at this
        exact this)
      have hnx' : (Mem.of x.2.2).next = mr.next := by rw [hnx]; rfl
      rcases fcall_ok hm hn hext n (Ref.all w) f x.1 _ Mem.empty mr hrun _ w xs (sim_empty w) (ints_rel hx h2 _ _) with ⟨⟨fn, k1, k2, _⟩, k3⟩ | ⟨z, g', w', k1, k2, k3, k4⟩
      · refine .inl ⟨⟨fn, k1, k2⟩, k3.mono fun e w' ⟨z, g', he, hz, hs, hx'⟩ => ⟨z, g.add m.next g', he, ?_, s.add (hcg hs) rfl, g.add_ext _ _ _⟩⟩
        have := VR.shift (g := g) (n := m.next) ((hcg hs).gbase.trans rfl) (by rw [← hnx'] at hz; exact hz)
        exact this
      · refine .inr ⟨z, g.add m.next g', w', k1, ?_, s.add (hcg k3) rfl, g.add_ext _ _ _⟩
        exact VR.shift (g := g) (n := m.next) ((hcg k3).gbase.trans rfl) (by rw [← hnx'] at k2; exact k2)
    · cases h1
  · cases he
end Go.Proofs.YtooogfnmhfocjaaDoor.Spl

/- The chapter's example comes to true: a closed run. -/
namespace SplA
open Go.Proofs.YtooogfnmhfocjaaDoor.Spl Go Go.Proofs
set_option maxRecDepth 100000

/-- The table of pvq.made. -/
noncomputable def madeL : List AV := [
  .int .i64 1, .int .i64 0, .int .i64 0, .int .i64 0, .int .i64 0, .int .i64 0, .int .i64 0, .int .i64 0, .int .i64 0, .int .i64 0, .int .i64 0, .int .i64 0, .int .i64 0, .int .i64 0, .int .i64 0, .int .i64 0, .int .i64 0, .int .i64 0, .int .i64 0, .int .i64 0, .int .i64 0, .int .i64 0, .int .i64 0, .int .i64 0, .int .i64 0,
  .int .i64 1, .int .i64 2, .int .i64 2, .int .i64 2, .int .i64 2, .int .i64 2, .int .i64 2, .int .i64 2, .int .i64 2, .int .i64 2, .int .i64 2, .int .i64 2, .int .i64 2, .int .i64 2, .int .i64 2, .int .i64 2, .int .i64 2, .int .i64 2, .int .i64 2, .int .i64 2, .int .i64 2, .int .i64 2, .int .i64 2, .int .i64 2, .int .i64 2,
  .int .i64 1, .int .i64 4, .int .i64 8, .int .i64 12, .int .i64 16, .int .i64 20, .int .i64 24, .int .i64 28, .int .i64 32, .int .i64 36, .int .i64 40, .int .i64 44, .int .i64 48, .int .i64 52, .int .i64 56, .int .i64 60, .int .i64 64, .int .i64 68, .int .i64 72, .int .i64 76, .int .i64 80, .int .i64 84, .int .i64 88, .int .i64 92, .int .i64 96,
  .int .i64 1, .int .i64 6, .int .i64 18, .int .i64 38, .int .i64 66, .int .i64 102, .int .i64 146, .int .i64 198, .int .i64 258, .int .i64 326, .int .i64 402, .int .i64 486, .int .i64 578, .int .i64 678, .int .i64 786, .int .i64 902, .int .i64 1026, .int .i64 1158, .int .i64 1298, .int .i64 1446, .int .i64 1602, .int .i64 1766, .int .i64 1938, .int .i64 2118, .int .i64 2306,
  .int .i64 1, .int .i64 8, .int .i64 32, .int .i64 88, .int .i64 192, .int .i64 360, .int .i64 608, .int .i64 952, .int .i64 1408, .int .i64 1992, .int .i64 2720, .int .i64 3608, .int .i64 4672, .int .i64 5928, .int .i64 7392, .int .i64 9080, .int .i64 11008, .int .i64 13192, .int .i64 15648, .int .i64 18392, .int .i64 21440, .int .i64 24808, .int .i64 28512, .int .i64 32568, .int .i64 36992,
  .int .i64 1, .int .i64 10, .int .i64 50, .int .i64 170, .int .i64 450, .int .i64 1002, .int .i64 1970, .int .i64 3530, .int .i64 5890, .int .i64 9290, .int .i64 14002, .int .i64 20330, .int .i64 28610, .int .i64 39210, .int .i64 52530, .int .i64 69002, .int .i64 89090, .int .i64 113290, .int .i64 142130, .int .i64 176170, .int .i64 216002, .int .i64 262250, .int .i64 315570, .int .i64 376650, .int .i64 446210,
  .int .i64 1, .int .i64 12, .int .i64 72, .int .i64 292, .int .i64 912, .int .i64 2364, .int .i64 5336, .int .i64 10836, .int .i64 20256, .int .i64 35436, .int .i64 58728, .int .i64 93060, .int .i64 142000, .int .i64 209820, .int .i64 301560, .int .i64 423092, .int .i64 581184, .int .i64 783564, .int .i64 1038984, .int .i64 1357284, .int .i64 1749456, .int .i64 2227708, .int .i64 2805528, .int .i64 3497748, .int .i64 4320608,
  .int .i64 1, .int .i64 14, .int .i64 98, .int .i64 462, .int .i64 1666, .int .i64 4942, .int .i64 12642, .int .i64 28814, .int .i64 59906, .int .i64 115598, .int .i64 209762, .int .i64 361550, .int .i64 596610, .int .i64 948430, .int .i64 1459810, .int .i64 2184462, .int .i64 3188738, .int .i64 4553486, .int .i64 6376034, .int .i64 8772302, .int .i64 11879042, .int .i64 15856206, .int .i64 20889442, .int .i64 27192718, .int .i64 35011074,
  .int .i64 1, .int .i64 16, .int .i64 128, .int .i64 688, .int .i64 2816, .int .i64 9424, .int .i64 27008, .int .i64 68464, .int .i64 157184, .int .i64 332688, .int .i64 658048, .int .i64 1229360, .int .i64 2187520, .int .i64 3732560, .int .i64 6140800, .int .i64 9785072, .int .i64 15158272, .int .i64 22900496, .int .i64 33830016, .int .i64 48978352, .int .i64 69629696, .int .i64 97364944, .int .i64 134110592, .int .i64 182192752, .int .i64 244396544
  ]
noncomputable def madeO : List (List AV × AV × List AObj) := [([], .ptr 0 0, [.cells T_pvq_table 0 madeL])]
noncomputable def extM : Ext := ext0.plus fn_pvq_made (closedOf (madeO.map fun x => (x.1, x.2.1, Mem.of x.2.2)))
theorem madeRun : comesTo (fast Tryd.prog table ext0 60 fn_pvq_made [] Mem.empty) (.ptr 0 0) [.cells T_pvq_table 0 madeL] = true := by kernel_rfl
theorem awakeRun : comesTrue (fast Tryd.prog table extM 100 fn_law22_awake [] Mem.empty) = true := by kernel_rfl
end SplA
