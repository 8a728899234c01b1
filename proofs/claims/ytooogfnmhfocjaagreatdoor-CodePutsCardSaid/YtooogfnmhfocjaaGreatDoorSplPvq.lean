/- How many pulses there are: a table, and its rows. -/
import Derived.Test.YtooogfnmhfocjaaGreatDoorSplNum
namespace Go.Proofs.YtooogfnmhfocjaaGreatDoor.Spl
open Go
set_option linter.unusedVariables false
set_option linter.unusedSimpArgs false

/-- A row behind the row l, of which x is the number ahead. -/
def nxtRow : Nat → List Nat → List Nat
  | _, [] => []
  | x, [_] => [x]
  | x, a :: b :: l => x :: nxtRow (b + x + a) (b :: l)
def pvRow : Nat → List Nat
  | 0 => 1 :: List.replicate 24 0
  | n + 1 => nxtRow 1 (pvRow n)
/-- How many pulses of n numbers there are, k from 0 on the whole. -/
def pvT (n k : Nat) : Nat := (pvRow n).getD k 0
theorem nxtRow_length : ∀ (l : List Nat) (x : Nat), (nxtRow x l).length = l.length
  | [], _ => rfl
  | [_], _ => rfl
  | a :: b :: l, x => by simp [nxtRow, nxtRow_length (b :: l)]
theorem pvRow_length : ∀ n, (pvRow n).length = 25
  | 0 => rfl
  | n + 1 => by rw [pvRow, nxtRow_length, pvRow_length n]
theorem nxtRow_zero {x : Nat} : ∀ {l : List Nat}, 0 < l.length → (nxtRow x l).getD 0 0 = x
  | [_], _ => rfl
  | _ :: _ :: _, _ => rfl
theorem nxtRow_succ : ∀ {l : List Nat} {x k : Nat}, k + 1 < l.length → (nxtRow x l).getD (k + 1) 0 = l.getD (k + 1) 0 + (nxtRow x l).getD k 0 + l.getD k 0
  | [], _, _, h => by simp at h
  | [_], _, _, h => by simp at h
  | a :: b :: l, x, 0, _ => by
    show (nxtRow (b + x + a) (b :: l)).getD 0 0 = b + x + a
    exact nxtRow_zero (by simp)
  | a :: b :: l, x, k + 1, h => by
    have := nxtRow_succ (l := b :: l) (x := b + x + a) (k := k) (by simpa using h)
    simpa [nxtRow] using this
theorem pvT_zero (n : Nat) : pvT n 0 = 1 := by
  cases n with
  | zero => rfl
  | succ n => exact nxtRow_zero (by rw [pvRow_length]; omega)
theorem pvT_succ {n k : Nat} (h : k < 24) : pvT (n + 1) (k + 1) = pvT n (k + 1) + pvT (n + 1) k + pvT n k := nxtRow_succ (by rw [pvRow_length]; omega)
theorem pvT_small : ∀ n, n < 9 → ∀ k, k < 25 → pvT n k < 1099511627776 := by decide +kernel
theorem pvT_zero_succ {k : Nat} : pvT 0 (k + 1) = 0 := by
  show (1 :: List.replicate 24 0).getD (k + 1) 0 = 0
  rw [List.getD_cons_succ, List.getD_eq_getElem?_getD, List.getElem?_replicate]
  split <;> rfl
/-- The table's cells, of which those of f stand. -/
def pvTab (f : Nat → Nat → Bool) : List AV := (List.range 225).map fun i => AV.int .i64 (if f (i / 25) (i % 25) then ((pvT (i / 25) (i % 25) : Nat) : Int) else 0)
theorem pvTab_length (f : Nat → Nat → Bool) : (pvTab f).length = 225 := by simp [pvTab]
theorem pvTab_get {f : Nat → Nat → Bool} {r c : Nat} (hr : r < 9) (hc : c < 25) (hf : f r c = true) : (pvTab f)[r * 25 + c]? = some (.int .i64 (pvT r c : Nat)) := by
  have h1 : (r * 25 + c) / 25 = r := by omega
  have h2 : (r * 25 + c) % 25 = c := by omega
  have h3 : r * 25 + c < 225 := by omega
  simp [pvTab, h1, h2, h3, hf]
theorem pvTab_set {f : Nat → Nat → Bool} {r c : Nat} (hr : r < 9) (hc : c < 25) : (pvTab f).set (r * 25 + c) (.int .i64 (pvT r c : Nat)) = pvTab (fun a b => f a b || (a == r && b == c)) := by
  refine List.ext_getElem (by simp [pvTab]) fun i h1 h2 => ?_
  rw [List.getElem_set]
  split
  · rename_i h
    subst h
    have h1 : (r * 25 + c) / 25 = r := by omega
    have h2 : (r * 25 + c) % 25 = c := by omega
    simp [pvTab, h1, h2]
  · rename_i h
    have hne : ¬ (i / 25 = r ∧ i % 25 = c) := by omega
    have : (i / 25 == r && i % 25 == c) = false := by
      rcases Decidable.not_and_iff_or_not.1 hne with h | h <;> simp [h]
    simp only [pvTab, List.getElem_map, List.getElem_range, this, Bool.or_false]
theorem pvTab_all {f : Nat → Nat → Bool} (h : ∀ a, a < 9 → ∀ b, b < 25 → f a b = true) : pvTab f = pvTab (fun _ _ => true) := by
  refine List.ext_getElem (by simp [pvTab]) fun i h1 h2 => ?_
  have hi : i < 225 := by simpa [pvTab] using h1
  have := h (i / 25) (by omega) (i % 25) (by omega)
  simp [pvTab, this]

/-! how far numbers are from 0 -/
def absSum : List Int → Nat
  | [] => 0
  | x :: l => x.natAbs + absSum l
theorem absSum_le : ∀ {l : List Int}, (∀ x ∈ l, x.natAbs ≤ 24) → absSum l ≤ 24 * l.length
  | [], _ => Nat.le_refl _
  | x :: l, h => by
    have h1 := h x (List.mem_cons_self ..)
    have h2 := absSum_le (fun y hy => h y (List.mem_cons_of_mem _ hy))
    simp only [absSum, List.length_cons]
    omega
theorem absSum_mem : ∀ {l : List Int} {x : Int}, x ∈ l → x.natAbs ≤ absSum l
  | y :: l, x, h => by
    rcases List.mem_cons.1 h with rfl | h
    · simp [absSum]
    · have := absSum_mem h
      simp only [absSum]; omega
/-- How far pulses are from 0; none: they are none. -/
def sizeN (l : List Int) : Option Nat := if 1 ≤ l.length ∧ l.length ≤ 8 ∧ absSum l ≤ 24 then some (absSum l) else none

/-! the number of pulses -/
/-- Those with a first number nearer to 0 than m; r: how many there are of the rest. -/
def lowN (r : Nat → Nat) (k : Nat) : Nat → Nat
  | 0 => 0
  | 1 => r k
  | m + 2 => lowN r k (m + 1) + 2 * r (k - (m + 1))
def idxN (k : Nat) : List Int → Nat
  | [] => 0
  | x :: l => lowN (pvT l.length) k x.natAbs + (if x < 0 then pvT l.length (k - x.natAbs) else 0) + idxN (k - x.natAbs) l
theorem lowN_succ {r : Nat → Nat} {k j : Nat} (h : 1 ≤ j) : lowN r k (j + 1) = lowN r k j + 2 * r (k - j) := by
  obtain ⟨i, rfl⟩ : ∃ i, j = i + 1 := ⟨j - 1, by omega⟩
  rfl
theorem lowN_le {r : Nat → Nat} {k B : Nat} (h : ∀ j, j ≤ k → r j ≤ B) : ∀ m, lowN r k m ≤ 2 * m * B
  | 0 => Nat.zero_le _
  | 1 => by have := h k (Nat.le_refl _); simp only [lowN]; omega
  | m + 2 => by
    have h1 := lowN_le h (m + 1)
    have h2 := h (k - (m + 1)) (Nat.sub_le _ _)
    simp only [lowN]
    have : 2 * (m + 2) * B = 2 * (m + 1) * B + 2 * B := by rw [← Nat.add_mul]; congr 1
    omega
def indexN (l : List Int) : Option Nat := if 1 ≤ l.length ∧ l.length ≤ 8 ∧ absSum l ≤ 24 then some (idxN (absSum l) l) else none

theorem lowN_shift (r : Nat → Nat) (k : Nat) : ∀ j, lowN r (k + 1) (j + 2) = r (k + 1) + r k + lowN r k (j + 1)
  | 0 => by simp only [lowN, Nat.add_sub_cancel]; omega
  | j + 1 => by
    have h := lowN_shift r k j
    have e : k + 1 - (j + 1 + 1) = k - (j + 1) := by omega
    show lowN r (k + 1) (j + 2) + 2 * r (k + 1 - (j + 1 + 1)) = _ + (lowN r k (j + 1) + 2 * r (k - (j + 1)))
    rw [h, e]; omega
theorem lowN_full (n : Nat) : ∀ k, k < 25 → lowN (pvT n) k (k + 1) = pvT (n + 1) k
  | 0, _ => by rw [pvT_zero]; exact pvT_zero n
  | k + 1, h => by rw [lowN_shift, lowN_full n k (by omega), pvT_succ (by omega)]; omega
def rowsI (r : Nat) : List Int := (pvRow r).map fun (x : Nat) => (x : Int)
theorem rowsI_length (r : Nat) : (rowsI r).length = 25 := by simp [rowsI, pvRow_length]
theorem rowsI_get {r k : Nat} (hk : k < 25) : (rowsI r)[k]? = some (pvT r k : Int) := by
  have : k < (pvRow r).length := by rw [pvRow_length]; exact hk
  simp [rowsI, pvT, List.getD_eq_getElem?_getD, List.getElem?_eq_getElem this]
end Go.Proofs.YtooogfnmhfocjaaGreatDoor.Spl
