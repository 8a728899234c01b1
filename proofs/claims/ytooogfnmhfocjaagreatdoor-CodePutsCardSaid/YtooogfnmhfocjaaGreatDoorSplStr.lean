/- The abstract machine, 15: strings as lists of bytes. -/
import Derived.Test.YtooogfnmhfocjaaGreatDoorSplNum
namespace Go.Proofs.YtooogfnmhfocjaaGreatDoor.Spl
open Go
set_option linter.unusedVariables false
set_option linter.unusedSimpArgs false

/-- A string of these bytes. -/
def bs (l : List UInt8) : ByteArray := ⟨l.toArray⟩
theorem bs_of (s : ByteArray) : bs s.data.toList = s := by cases s; simp [bs]
theorem bs_size (l : List UInt8) : (bs l).size = l.length := rfl
theorem bs_append (a b : List UInt8) : bs a ++ bs b = bs (a ++ b) := by ext1; simp [bs]
theorem bs_extract (l : List UInt8) (a b : Nat) : (bs l).extract a b = bs ((l.take b).drop a) := by
  ext1
  simp [bs, List.drop_take]
theorem bs_toList (l : List UInt8) : (bs l).toList = l := by rw [ByteArray.toList_eq]; simp [bs]
theorem bs_get (l : List UInt8) (i : Nat) : (bs l)[i]? = l[i]? := by
  by_cases h : i < l.length
  · rw [getElem?_pos (bs l) i h, List.getElem?_eq_getElem h]
    rfl
  · rw [getElem?_neg (bs l) i h, List.getElem?_eq_none (by omega)]
theorem bs_empty : ByteArray.empty = bs [] := rfl
@[simp] theorem strEq_bs (a b : List UInt8) : strEq (bs a) (bs b) = decide (a = b) := by
  simp only [strEq, bs_toList]
  by_cases h : a = b <;> simp [h]
theorem aIdxStr_bs (l : List UInt8) (k : IntKind) (n : Nat) {b : UInt8} (h : l[n]? = some b) : aIdxStr (.str (bs l)) (.int k n) = some (.int .u8 b.toNat) := by
  simp [aIdxStr, bs_get, h]
theorem aIdxStr_int (l : List UInt8) (k : IntKind) (n : Int) (h : 0 ≤ n) : aIdxStr (.str (bs l)) (.int k n) = (l[n.toNat]?).map fun b => .int .u8 b.toNat := by
  simp [aIdxStr, bs_get, h]
theorem aSliceStr_from' (l : List UInt8) (k : IntKind) (n : Int) (h : 0 ≤ n ∧ n ≤ l.length) : aSliceStr (.str (bs l)) (some (.int k n)) none = some (.str (bs (l.drop n.toNat))) := by
  simp only [aSliceStr, lowOf, highOf]
  have := bs_size l
  rw [if_pos (by omega)]
  simp [bs_extract, bs_size]
theorem aSliceStr_from (l : List UInt8) (k : IntKind) (n : Nat) (h : n ≤ l.length) : aSliceStr (.str (bs l)) (some (.int k n)) none = some (.str (bs (l.drop n))) := by
  simp only [aSliceStr, lowOf, highOf]
  have := bs_size l
  rw [if_pos (by omega)]
  simp [bs_extract, bs_size]
theorem aSliceStr_to (l : List UInt8) (k : IntKind) (n : Nat) (h : n ≤ l.length) : aSliceStr (.str (bs l)) none (some (.int k n)) = some (.str (bs (l.take n))) := by
  simp only [aSliceStr, lowOf, highOf]
  have := bs_size l
  rw [if_pos (by omega)]
  simp [bs_extract, bs_size]
theorem aSliceStr_mid (l : List UInt8) (k k' : IntKind) (a b : Nat) (h : a ≤ b) (h' : b ≤ l.length) : aSliceStr (.str (bs l)) (some (.int k a)) (some (.int k' b)) = some (.str (bs ((l.take b).drop a))) := by
  simp only [aSliceStr, lowOf, highOf]
  have := bs_size l
  rw [if_pos (by omega)]
  simp [bs_extract, bs_size]
theorem aBin_addStr (a b : List UInt8) (e : List Nat) (h : a.length + b.length ≤ 9223372036854775807) : aBin .add e (.str (bs a)) (.str (bs b)) = some (.str (bs (a ++ b))) := by
  have h1 := bs_size a
  have h2 := bs_size b
  have h3 : IntKind.i64.max = 9223372036854775807 := by decide
  simp only [aBin, s2]
  rw [if_neg (by omega), bs_append]
theorem bs_toByteArray (l : List UInt8) : (⟨l.toArray⟩ : ByteArray) = bs l := rfl
end Go.Proofs.YtooogfnmhfocjaaGreatDoor.Spl
