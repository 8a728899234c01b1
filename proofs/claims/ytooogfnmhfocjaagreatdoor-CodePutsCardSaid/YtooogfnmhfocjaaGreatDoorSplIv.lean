/- Plain: octets as numbers; the intervals of a range coder; the state of a decoder. -/
import Derived.Test.YtooogfnmhfocjaaGreatDoorSplArg
namespace Go.Proofs.YtooogfnmhfocjaaGreatDoor.Spl
open Go
set_option linter.unusedVariables false
set_option linter.unusedSimpArgs false

def hd : List UInt8 → Nat
  | [] => 0
  | b :: _ => b.toNat
theorem hd_lt (l : List UInt8) : hd l < 256 := by
  cases l with
  | nil => decide
  | cons b l => exact b.toNat_lt


/-- The range. -/
def rngOf (s : Bool) (r : Nat) : Nat := if s then r else 4294967295


/-- A part of the range. -/
def partOf (r lo hi t : Nat) : Nat := if hi = t then r - r / t * lo else r / t * (hi - lo)


/-- Where a decoder is. -/
structure Dec where
  rng : Nat
  code : Nat
  l : List UInt8
def Dec.fill : Nat → Dec → Dec
  | 0, d => d
  | n + 1, d => if 16777216 ≤ d.rng then d else Dec.fill n ⟨d.rng * 256, d.code * 256 + hd d.l, d.l.tail⟩
def Dec.take (lo hi t : Nat) (d : Dec) : Dec := Dec.fill 3 ⟨partOf d.rng lo hi t, min (d.code - d.rng / t * lo) (partOf d.rng lo hi t - 1), d.l⟩
def Dec.place (t : Nat) (d : Dec) : Nat := min (t - 1) (d.code / (d.rng / t))
structure Dec.Fits (d : Dec) : Prop where
  lo : 16777216 ≤ d.rng
  hi : d.rng ≤ 4294967295
  code : d.code ≤ 4294967295


theorem Dec.fill_done {n : Nat} {d : Dec} (h : 16777216 ≤ d.rng) : Dec.fill n d = d := by
  cases n with
  | zero => rfl
  | succ n => simp [Dec.fill, h]


theorem partOf_bounds {r lo hi t : Nat} (h1 : 16777216 ≤ r) (h2 : r ≤ 4294967295) (hp : lo < hi ∧ hi ≤ t ∧ t ≤ 65536) : 256 ≤ partOf r lo hi t ∧ partOf r lo hi t ≤ r := by
  have hq : 256 ≤ r / t := (Nat.le_div_iff_mul_le (by omega)).2 (by omega)
  have hm : r / t * t ≤ r := Nat.div_mul_le_self r t
  unfold partOf
  split
  · rename_i e
    subst e
    have : r / hi * lo + r / hi ≤ r / hi * hi := by rw [← Nat.mul_succ]; exact Nat.mul_le_mul_left _ hp.1
    omega
  · have h3 : r / t * (hi - lo) ≤ r / t * t := Nat.mul_le_mul_left _ (by omega)
    have h4 : r / t * 1 ≤ r / t * (hi - lo) := Nat.mul_le_mul_left _ (by omega)
    omega

theorem fill_fits : ∀ {k : Nat} {d : Dec}, 1 ≤ d.rng → d.rng ≤ 4294967295 → d.code < d.rng → 16777216 ≤ d.rng * 256 ^ k → (d.fill k).Fits
  | 0, d, h1, h2, h3, h4 => ⟨by show 16777216 ≤ d.rng; simpa using h4, h2, by show d.code ≤ _; omega⟩
  | k + 1, d, h1, h2, h3, h4 => by
    unfold Dec.fill
    have hh := hd_lt d.l
    split
    · exact ⟨by assumption, h2, by omega⟩
    · exact fill_fits (by show 1 ≤ d.rng * 256; omega) (by show d.rng * 256 ≤ _; omega) (by show d.code * 256 + hd d.l < d.rng * 256; omega) (by show _ ≤ d.rng * 256 * 256 ^ k; rw [Nat.mul_assoc, ← Nat.pow_succ']; exact h4)

theorem take_fits {lo hi t : Nat} {d : Dec} (hd : d.Fits) (hp : lo < hi ∧ hi ≤ t ∧ t ≤ 65536) : (d.take lo hi t).Fits := by
  obtain ⟨h1, h2⟩ := partOf_bounds hd.lo hd.hi hp
  have h3 := hd.hi
  exact fill_fits (by show 1 ≤ partOf d.rng lo hi t; omega) (by show partOf d.rng lo hi t ≤ _; omega) (by show min _ _ < partOf d.rng lo hi t; omega) (by show _ ≤ partOf d.rng lo hi t * _; omega)


def Dec.init : Nat → Dec → Dec
  | 0, d => d
  | n + 1, d => Dec.init n ⟨d.rng, d.code * 256 + hd d.l, d.l.tail⟩
def Dec.start (l : List UInt8) : Dec := Dec.init 4 ⟨4294967295, 0, l⟩
theorem init_bounds : ∀ {n : Nat} {d : Dec} {j : Nat}, d.code < 256 ^ j → (d.init n).code < 256 ^ (n + j) ∧ (d.init n).rng = d.rng
  | 0, d, j, h => ⟨by simpa [Dec.init] using h, rfl⟩
  | n + 1, d, j, h => by
    have hh := hd_lt d.l
    have := init_bounds (n := n) (d := ⟨d.rng, d.code * 256 + hd d.l, d.l.tail⟩) (j := j + 1) (by show d.code * 256 + hd d.l < 256 ^ (j + 1); rw [Nat.pow_succ]; omega)
    rw [show n + 1 + j = n + (j + 1) by omega]
    exact this
theorem start_fits (l : List UInt8) : (Dec.start l).Fits := by
  obtain ⟨h1, h2⟩ := init_bounds (n := 4) (d := ⟨4294967295, 0, l⟩) (j := 0) (by show 0 < 256 ^ 0; decide)
  have h3 : (Dec.start l).rng = 4294967295 := h2
  have h4 : (Dec.start l).code < 4294967296 := h1
  exact ⟨by omega, by omega, by omega⟩


/-! numbers of octets -/

/-- The k lowest octets of a number, the highest first. -/
def dig : Nat → Nat → List UInt8
  | 0, _ => []
  | k + 1, v => dig k (v / 256) ++ [UInt8.ofNat v]
theorem dig_length : ∀ (k v : Nat), (dig k v).length = k
  | 0, _ => rfl
  | k + 1, v => by simp [dig, dig_length k]
theorem toNat_ofNat (v : Nat) : (UInt8.ofNat v).toNat = v % 256 := by simp [UInt8.toNat_ofNat']
theorem ofNat_mod (v : Nat) : UInt8.ofNat (v % 256) = UInt8.ofNat v := by
  apply UInt8.toNat_inj.1
  rw [toNat_ofNat, toNat_ofNat, Nat.mod_mod]
theorem dig_snoc (k v b : Nat) (h : b < 256) : dig (k + 1) (v * 256 + b) = dig k v ++ [UInt8.ofNat b] := by
  have h1 : (v * 256 + b) / 256 = v := by omega
  have h2 : UInt8.ofNat (v * 256 + b) = UInt8.ofNat b := by rw [← ofNat_mod, show (v * 256 + b) % 256 = b by omega]
  simp [dig, h1, h2]
theorem dig_carry : ∀ (f k v : Nat) (P : List UInt8) (b : UInt8), dig k v = P ++ [b] ++ List.replicate f 255 → b.toNat < 255 → dig k (v + 1) = P ++ [UInt8.ofNat (b.toNat + 1)] ++ List.replicate f 0
  | f, 0, v, P, b, h, hb => by
    have := congrArg List.length h
    simp [dig] at this
  | 0, k + 1, v, P, b, h, hb => by
    simp only [dig, List.replicate_zero, List.append_nil] at h ⊢
    obtain ⟨h1, h2⟩ := List.append_inj' h rfl
    have h3 : UInt8.ofNat v = b := by simpa using h2
    have h4 : v % 256 = b.toNat := by rw [← h3, toNat_ofNat]
    rw [show (v + 1) / 256 = v / 256 by omega, h1, ← h4, ← ofNat_mod (v + 1), show (v + 1) % 256 = v % 256 + 1 by omega]
  | f + 1, k + 1, v, P, b, h, hb => by
    rw [List.replicate_succ', ← List.append_assoc] at h
    simp only [dig] at h
    obtain ⟨h1, h2⟩ := List.append_inj' h rfl
    have h3 : UInt8.ofNat v = 255 := by simpa using h2
    have h4 : v % 256 = 255 := by rw [← toNat_ofNat, h3]; rfl
    have ih := dig_carry f k (v / 256) P b h1 hb
    rw [List.replicate_succ', ← List.append_assoc, ← ih]
    simp only [dig]
    rw [show (v + 1) / 256 = v / 256 + 1 by omega, ← ofNat_mod (v + 1), show (v + 1) % 256 = 0 by omega]
    rfl
theorem dig_full : ∀ (k v : Nat), dig k v = List.replicate k 255 → v < 256 ^ k → v + 1 = 256 ^ k
  | 0, v, _, h => by simp at h; omega
  | k + 1, v, h, hv => by
    rw [List.replicate_succ'] at h
    simp only [dig] at h
    obtain ⟨h1, h2⟩ := List.append_inj' h rfl
    have h3 : UInt8.ofNat v = 255 := by simpa using h2
    have h4 : v % 256 = 255 := by rw [← toNat_ofNat, h3]; rfl
    rw [Nat.pow_succ] at hv ⊢
    have ih := dig_full k (v / 256) h1 (by omega)
    omega
theorem dig_add : ∀ (j k v w : Nat), w < 256 ^ j → dig (k + j) (v * 256 ^ j + w) = dig k v ++ dig j w
  | 0, k, v, w, h => by simp at h; simp [dig, h]
  | j + 1, k, v, w, h => by
    rw [Nat.pow_succ] at h
    have ih := dig_add j k v (w / 256) (by omega)
    have e : v * 256 ^ (j + 1) + w = (v * 256 ^ j + w / 256) * 256 + w % 256 := by
      rw [Nat.pow_succ, Nat.add_mul, Nat.mul_assoc]; omega
    rw [e, ← Nat.add_assoc, dig_snoc _ _ _ (Nat.mod_lt _ (by decide)), ih, ofNat_mod]
    simp [dig]

/-- The number of the first k octets; behind the end there are zeros. -/
def pre (l : List UInt8) : Nat → Nat
  | 0 => 0
  | k + 1 => pre l k * 256 + hd (l.drop k)
theorem hd_append (a b : List UInt8) (h : a ≠ []) : hd (a ++ b) = hd a := by
  cases a with
  | nil => exact absurd rfl h
  | cons x a => rfl
theorem pre_append (a b : List UInt8) : ∀ k, k ≤ a.length → pre (a ++ b) k = pre a k
  | 0, _ => rfl
  | k + 1, h => by
    simp only [pre]
    rw [pre_append a b k (by omega), List.drop_append_of_le_length (by omega), hd_append]
    intro e
    have := congrArg List.length e
    simp at this; omega
theorem pre_dig : ∀ (m v k : Nat), k ≤ m → v < 256 ^ m → pre (dig m v) k = v / 256 ^ (m - k)
  | 0, v, k, h, hv => by
    have : k = 0 := by omega
    subst this
    simp at hv
    simp [pre, hv]
  | m + 1, v, k, h, hv => by
    rw [Nat.pow_succ] at hv
    have hv' : v / 256 < 256 ^ m := by omega
    rcases Nat.lt_or_ge m k with h1 | h1
    · have : k = m + 1 := by omega
      subst this
      simp only [pre, dig]
      rw [pre_append _ _ m (by rw [dig_length]; omega), pre_dig m (v / 256) m (Nat.le_refl _) hv']
      rw [List.drop_append_of_le_length (by rw [dig_length]; omega), List.drop_of_length_le (by rw [dig_length]; omega)]
      simp only [List.nil_append, hd, toNat_ofNat, Nat.sub_self, Nat.pow_zero, Nat.div_one]
      omega
    · simp only [dig]
      rw [pre_append _ _ k (by rw [dig_length]; omega), pre_dig m (v / 256) k h1 hv', Nat.div_div_eq_div_mul, ← Nat.pow_succ', show m + 1 - k = m - k + 1 by omega]

/-- Without the zeros at its end. -/
def trim : List UInt8 → List UInt8
  | [] => []
  | b :: l => if b = 0 ∧ trim l = [] then [] else b :: trim l
theorem trim_drop : ∀ (l : List UInt8) (k : Nat), hd ((trim l).drop k) = hd (l.drop k)
  | [], k => rfl
  | b :: l, 0 => by
    unfold trim
    split
    · rename_i h
      simp [hd, h.1]
    · rfl
  | b :: l, k + 1 => by
    have ih := trim_drop l k
    unfold trim
    split
    · rename_i h
      rw [h.2] at ih
      simpa using ih
    · simpa using ih
theorem pre_trim (l : List UInt8) : ∀ k, pre (trim l) k = pre l k
  | 0 => rfl
  | k + 1 => by simp [pre, pre_trim l k, trim_drop]
theorem trim_snoc_zero (l : List UInt8) : trim (l ++ [0]) = trim l := by
  induction l with
  | nil => rfl
  | cons b l ih => simp [trim, ih]
theorem trim_snoc (l : List UInt8) (b : UInt8) (h : b ≠ 0) : trim (l ++ [b]) = l ++ [b] := by
  induction l with
  | nil => simp [trim, h]
  | cons c l ih => simp [trim, ih]
theorem trim_length (l : List UInt8) : (trim l).length ≤ l.length := by
  induction l with
  | nil => simp [trim]
  | cons b l ih =>
    unfold trim
    split <;> simp <;> omega

/-! intervals -/

structure Iv where
  n : Nat
  V : Nat
  R : Nat
def Iv.fill : Nat → Iv → Iv
  | 0, x => x
  | k + 1, x => if 16777216 ≤ x.R then x else Iv.fill k ⟨x.n + 1, x.V * 256, x.R * 256⟩
def Iv.narrow (lo hi t : Nat) (x : Iv) : Iv := ⟨x.n, x.V + x.R / t * lo, partOf x.R lo hi t⟩
def Iv.code (lo hi t : Nat) (x : Iv) : Iv := Iv.fill 3 (x.narrow lo hi t)
def Iv.start : Iv := ⟨0, 0, 4294967295⟩
structure Iv.Fits (x : Iv) : Prop where
  lo : 16777216 ≤ x.R
  hi : x.R ≤ 4294967295
  top : x.V + x.R ≤ 256 ^ x.n * 4294967296
/-- Is y a part of x? -/
def Iv.Sub (x y : Iv) : Prop := ∃ k, y.n = x.n + k ∧ x.V * 256 ^ k ≤ y.V ∧ y.V + y.R ≤ (x.V + x.R) * 256 ^ k
theorem Iv.Sub.refl (x : Iv) : x.Sub x := ⟨0, rfl, by simp, by simp⟩
theorem Iv.Sub.trans {x y z : Iv} (h : x.Sub y) (g : y.Sub z) : x.Sub z := by
  obtain ⟨k, h1, h2, h3⟩ := h
  obtain ⟨j, g1, g2, g3⟩ := g
  refine ⟨k + j, by omega, ?_, ?_⟩
  · rw [Nat.pow_add, ← Nat.mul_assoc]
    exact Nat.le_trans (Nat.mul_le_mul_right _ h2) g2
  · rw [Nat.pow_add, ← Nat.mul_assoc]
    exact Nat.le_trans g3 (Nat.mul_le_mul_right _ h3)
theorem part_in {r lo hi t : Nat} (hp : lo < hi ∧ hi ≤ t) : r / t * lo + partOf r lo hi t ≤ r := by
  have hm : r / t * t ≤ r := Nat.div_mul_le_self r t
  have h2 : r / t * hi ≤ r / t * t := Nat.mul_le_mul_left _ hp.2
  have h3 : r / t * lo ≤ r / t * hi := Nat.mul_le_mul_left _ (by omega)
  unfold partOf
  split
  · omega
  · rw [Nat.mul_sub]; omega
theorem Iv.narrow_sub {lo hi t : Nat} (x : Iv) (hp : lo < hi ∧ hi ≤ t) : x.Sub (x.narrow lo hi t) := by
  have := part_in (r := x.R) hp
  exact ⟨0, rfl, by simp [Iv.narrow], by simp [Iv.narrow]; omega⟩
theorem Iv.fill_sub : ∀ (k : Nat) (x : Iv), x.Sub (x.fill k)
  | 0, x => Iv.Sub.refl x
  | k + 1, x => by
    unfold Iv.fill
    split
    · exact Iv.Sub.refl x
    · exact Iv.Sub.trans (y := ⟨x.n + 1, x.V * 256, x.R * 256⟩) ⟨1, rfl, by simp, by simp [Nat.add_mul]⟩ (Iv.fill_sub k _)
theorem Iv.code_sub {lo hi t : Nat} (x : Iv) (hp : lo < hi ∧ hi ≤ t) : x.Sub (x.code lo hi t) := (x.narrow_sub hp).trans (Iv.fill_sub 3 _)
theorem Iv.fill_fits : ∀ {k : Nat} {x : Iv}, 1 ≤ x.R → x.R ≤ 4294967295 → 16777216 ≤ x.R * 256 ^ k → x.V + x.R ≤ 256 ^ x.n * 4294967296 → (x.fill k).Fits
  | 0, x, h1, h2, h3, h4 => ⟨by show 16777216 ≤ x.R; simpa using h3, h2, h4⟩
  | k + 1, x, h1, h2, h3, h4 => by
    unfold Iv.fill
    split
    · exact ⟨by assumption, h2, h4⟩
    · refine Iv.fill_fits (by show 1 ≤ x.R * 256; omega) (by show x.R * 256 ≤ _; omega) (by show _ ≤ x.R * 256 * 256 ^ k; rw [Nat.mul_assoc, ← Nat.pow_succ']; exact h3) ?_
      show x.V * 256 + x.R * 256 ≤ 256 ^ (x.n + 1) * 4294967296
      rw [Nat.pow_succ]
      omega
theorem Iv.narrow_top {lo hi t : Nat} {x : Iv} (h : x.Fits) (hp : lo < hi ∧ hi ≤ t) : (x.narrow lo hi t).V + (x.narrow lo hi t).R ≤ 256 ^ x.n * 4294967296 := by
  have := part_in (r := x.R) hp
  have := h.top
  simp only [Iv.narrow]
  omega
theorem Iv.code_fits {lo hi t : Nat} {x : Iv} (h : x.Fits) (hp : lo < hi ∧ hi ≤ t ∧ t ≤ 65536) : (x.code lo hi t).Fits := by
  obtain ⟨h1, h2⟩ := partOf_bounds h.lo h.hi hp
  have h3 := h.hi
  exact Iv.fill_fits (by show 1 ≤ partOf x.R lo hi t; omega) (by show partOf x.R lo hi t ≤ _; omega) (by show _ ≤ partOf x.R lo hi t * _; omega) (Iv.narrow_top h ⟨hp.1, hp.2.1⟩)
theorem Iv.start_fits : Iv.start.Fits := ⟨by decide, by decide, by decide⟩
theorem Iv.fill_n : ∀ (k : Nat) (x : Iv), x.n ≤ (x.fill k).n ∧ (x.fill k).n ≤ x.n + k
  | 0, x => ⟨Nat.le_refl _, Nat.le_refl _⟩
  | k + 1, x => by
    unfold Iv.fill
    split
    · exact ⟨Nat.le_refl _, by omega⟩
    · have := Iv.fill_n k ⟨x.n + 1, x.V * 256, x.R * 256⟩
      simp only at this
      omega
theorem Iv.code_n (lo hi t : Nat) (x : Iv) : x.n ≤ (x.code lo hi t).n ∧ (x.code lo hi t).n ≤ x.n + 3 := Iv.fill_n 3 (x.narrow lo hi t)

/-- The octets at the end. -/
def Iv.ends (x : Iv) : List UInt8 := trim (dig (x.n + 4) x.V)

/-! a decoder of octets that were coded -/

/-- Do the octets lie in the interval? -/
def Within (S : List UInt8) (x : Iv) : Prop := x.V ≤ pre S (x.n + 4) ∧ pre S (x.n + 4) < x.V + x.R
theorem within_ends {x z : Iv} (hz : z.Fits) (h : x.Sub z) : Within z.ends x := by
  obtain ⟨k, h1, h2, h3⟩ := h
  have hlo := hz.lo
  have htop := hz.top
  have hv : z.V < 256 ^ (z.n + 4) := by
    rw [Nat.pow_add]
    have : 256 ^ 4 = 4294967296 := by decide
    omega
  have e : pre z.ends (x.n + 4) = z.V / 256 ^ k := by
    rw [Iv.ends, pre_trim, pre_dig _ _ _ (by omega) hv, show z.n + 4 - (x.n + 4) = k by omega]
  have hk : 0 < 256 ^ k := Nat.pow_pos (by decide)
  unfold Within
  rw [e]
  exact ⟨(Nat.le_div_iff_mul_le hk).2 h2, (Nat.div_lt_iff_lt_mul hk).2 (by omega)⟩
structure Dec.At (S : List UInt8) (x : Iv) (d : Dec) : Prop where
  rng : d.rng = x.R
  l : d.l = S.drop (x.n + 4)
  code : d.code + x.V = pre S (x.n + 4)
theorem within_fill {S : List UInt8} : ∀ {k : Nat} {x : Iv}, Within S (x.fill k) → Within S x
  | 0, x, h => h
  | k + 1, x, h => by
    unfold Iv.fill at h
    split at h
    · exact h
    · have := within_fill h
      have hb := hd_lt (S.drop (x.n + 4))
      have e : pre S (x.n + 1 + 4) = pre S (x.n + 4) * 256 + hd (S.drop (x.n + 4)) := by rw [show x.n + 1 + 4 = x.n + 4 + 1 by omega]; rfl
      obtain ⟨h1, h2⟩ := this
      simp only at h1 h2
      rw [e] at h1 h2
      constructor <;> omega
theorem at_fill {S : List UInt8} : ∀ {k : Nat} {x : Iv} {d : Dec}, d.At S x → (d.fill k).At S (x.fill k)
  | 0, x, d, h => h
  | k + 1, x, d, h => by
    unfold Iv.fill Dec.fill
    rw [h.rng]
    split
    · exact h
    · refine at_fill ⟨by show x.R * 256 = _; rfl, ?_, ?_⟩
      · show d.l.tail = S.drop (x.n + 1 + 4)
        rw [h.l, List.tail_drop, show x.n + 4 + 1 = x.n + 1 + 4 by omega]
      · show d.code * 256 + hd d.l + x.V * 256 = pre S (x.n + 1 + 4)
        have := h.code
        rw [show x.n + 1 + 4 = x.n + 4 + 1 by omega, pre, ← this, h.l]
        omega
theorem at_start (S : List UInt8) : (Dec.start S).At S Iv.start := by
  refine ⟨rfl, ?_, ?_⟩
  · simp [Dec.start, Dec.init, Iv.start, ← List.drop_one, List.drop_drop]
  · simp only [Dec.start, Dec.init, Iv.start, pre, Nat.add_zero, List.drop_zero]
    simp [← List.drop_one, List.drop_drop]
theorem at_place {S : List UInt8} {x : Iv} {d : Dec} {lo hi t : Nat} (h : d.At S x) (hx : x.Fits) (hp : lo < hi ∧ hi ≤ t ∧ t ≤ 65536) (hw : Within S (x.code lo hi t)) : lo ≤ d.place t ∧ d.place t < hi := by
  obtain ⟨h1, h2⟩ := within_fill (k := 3) (x := x.narrow lo hi t) hw
  have hc := h.code
  simp only [Iv.narrow] at h1 h2
  have hu : 256 ≤ x.R / t := (Nat.le_div_iff_mul_le (by omega)).2 (by have := hx.lo; omega)
  have a1 : x.R / t * lo ≤ d.code := by omega
  unfold Dec.place
  rw [h.rng]
  have b1 : lo ≤ d.code / (x.R / t) := (Nat.le_div_iff_mul_le (by omega)).2 (by rw [Nat.mul_comm]; exact a1)
  refine ⟨by omega, ?_⟩
  by_cases e : hi = t
  · omega
  · simp only [partOf, e, if_false] at h2
    have a2 : d.code < x.R / t * hi := by
      have : x.R / t * hi = x.R / t * lo + x.R / t * (hi - lo) := by rw [← Nat.mul_add]; congr 1; omega
      omega
    have b2 : d.code / (x.R / t) < hi := (Nat.div_lt_iff_lt_mul (by omega)).2 (by rw [Nat.mul_comm]; exact a2)
    omega
theorem at_take {S : List UInt8} {x : Iv} {d : Dec} {lo hi t : Nat} (h : d.At S x) (hw : Within S (x.code lo hi t)) : (d.take lo hi t).At S (x.code lo hi t) := by
  obtain ⟨h1, h2⟩ := within_fill (k := 3) (x := x.narrow lo hi t) hw
  have hc := h.code
  simp only [Iv.narrow] at h1 h2
  refine at_fill ⟨?_, h.l, ?_⟩
  · show partOf d.rng lo hi t = partOf x.R lo hi t
    rw [h.rng]
  · show min (d.code - d.rng / t * lo) (partOf d.rng lo hi t - 1) + (x.V + x.R / t * lo) = pre S (x.n + 4)
    rw [h.rng]
    omega
end Go.Proofs.YtooogfnmhfocjaaGreatDoor.Spl
