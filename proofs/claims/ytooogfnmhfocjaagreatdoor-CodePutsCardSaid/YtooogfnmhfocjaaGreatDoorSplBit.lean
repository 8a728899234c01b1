/- The abstract machine, 19: shifts, bits and quotients of numbers that are not negative. -/
import Derived.Test.YtooogfnmhfocjaaGreatDoorSplBuf
namespace Go.Proofs.YtooogfnmhfocjaaGreatDoor.Spl
open Go
set_option linter.unusedVariables false
set_option linter.unusedSimpArgs false

theorem i64_nat {n : Nat} (h : n < 9223372036854775808) : IntKind.i64.wrap (n : Int) = n := IntWalk.i64_in _ ⟨Int.le_trans (by decide) (Int.natCast_nonneg _), by omega⟩
theorem shl_nat (k' : IntKind) (e : List Nat) (a n : Nat) (h : a * 2 ^ n < 9223372036854775808) (hn : n ≤ 64) : aBin .shl e (.int .i64 (a : Int)) (.int k' (n : Int)) = some (.int .i64 ((a * 2 ^ n : Nat) : Int)) := by
  rw [aBin_shl _ _ _ _ _ ⟨Int.natCast_nonneg _, by show (n : Int) ≤ ((64 : Nat) : Int); omega⟩, Int.toNat_natCast, show (a : Int) * 2 ^ n = ((a * 2 ^ n : Nat) : Int) by rw [Int.natCast_mul, Int.natCast_pow]; rfl, i64_nat h]
theorem shl_one (k' : IntKind) (e : List Nat) (n : Nat) (hn : n ≤ 62) : aBin .shl e (.int .i64 1) (.int k' (n : Int)) = some (.int .i64 ((2 ^ n : Nat) : Int)) := by
  have h : 2 ^ n ≤ 2 ^ 62 := Nat.pow_le_pow_right (by decide) hn
  have := shl_nat k' e 1 n (by omega) (by omega)
  rwa [Nat.one_mul] at this
theorem and_mask (e : List Nat) (a n : Nat) (ha : a < 9223372036854775808) (hn : n ≤ 62) : aBin .and e (.int .i64 (a : Int)) (.int .i64 ((2 ^ n - 1 : Nat) : Int)) = some (.int .i64 ((a % 2 ^ n : Nat) : Int)) := by
  have h : 2 ^ n ≤ 2 ^ 62 := Nat.pow_le_pow_right (by decide) hn
  have hml : a % 2 ^ n ≤ a := Nat.mod_le _ _
  simp only [aBin, b2, if_true]
  have e' : (BitVec.ofInt IntKind.i64.bits (a : Int) &&& BitVec.ofInt IntKind.i64.bits ((2 ^ n - 1 : Nat) : Int)).toNat = a % 2 ^ n := by
    show (BitVec.ofInt 64 (a : Int) &&& BitVec.ofInt 64 ((2 ^ n - 1 : Nat) : Int)).toNat = _
    rw [BitVec.ofInt_natCast, BitVec.ofInt_natCast, BitVec.toNat_and, BitVec.toNat_ofNat, BitVec.toNat_ofNat, Nat.mod_eq_of_lt (show a < 2 ^ 64 by omega), Nat.mod_eq_of_lt (show 2 ^ n - 1 < 2 ^ 64 by omega)]
    exact Nat.and_two_pow_sub_one_eq_mod a n
  rw [e', i64_nat (by omega)]
theorem or_nat (e : List Nat) (a b n : Nat) (hb : b < 2 ^ n) (h : a * 2 ^ n + b < 9223372036854775808) : aBin .or e (.int .i64 ((a * 2 ^ n : Nat) : Int)) (.int .i64 (b : Int)) = some (.int .i64 ((a * 2 ^ n + b : Nat) : Int)) := by
  simp only [aBin, b2, if_true]
  have e' : (BitVec.ofInt IntKind.i64.bits ((a * 2 ^ n : Nat) : Int) ||| BitVec.ofInt IntKind.i64.bits (b : Int)).toNat = a * 2 ^ n + b := by
    show (BitVec.ofInt 64 ((a * 2 ^ n : Nat) : Int) ||| BitVec.ofInt 64 (b : Int)).toNat = _
    rw [BitVec.ofInt_natCast, BitVec.ofInt_natCast, BitVec.toNat_or, BitVec.toNat_ofNat, BitVec.toNat_ofNat, Nat.mod_eq_of_lt (show a * 2 ^ n < 2 ^ 64 by omega), Nat.mod_eq_of_lt (show b < 2 ^ 64 by omega)]
    have := Nat.shiftLeft_add_eq_or_of_lt (i := n) (b := b) hb a
    rw [Nat.shiftLeft_eq] at this
    exact this.symm
  rw [e', i64_nat h]
theorem tdiv_nat (a b : Nat) : (a : Int).tdiv (b : Int) = ((a / b : Nat) : Int) := by rw [Int.tdiv_eq_ediv_of_nonneg (Int.natCast_nonneg _)]; rfl
theorem tmod_nat (a b : Nat) : (a : Int).tmod (b : Int) = ((a % b : Nat) : Int) := by rw [Int.tmod_eq_emod_of_nonneg (Int.natCast_nonneg _)]; rfl
theorem rem_nat (e : List Nat) (k : IntKind) (a b : Nat) (hb : 0 < b) : aBin .rem e (.int k (a : Int)) (.int k (b : Int)) = some (.int k ((a % b : Nat) : Int)) := by
  rw [aBin_rem _ _ _ _ (by omega), tmod_nat]
theorem quo_nat (e : List Nat) (a b : Nat) (hb : 0 < b) (ha : a < 9223372036854775808) : aBin .quo e (.int .i64 (a : Int)) (.int .i64 (b : Int)) = some (.int .i64 ((a / b : Nat) : Int)) := by
  have := Nat.div_le_self a b
  rw [aBin_quo _ _ _ _ (by omega), tdiv_nat, i64_nat (by omega)]
end Go.Proofs.YtooogfnmhfocjaaGreatDoor.Spl
