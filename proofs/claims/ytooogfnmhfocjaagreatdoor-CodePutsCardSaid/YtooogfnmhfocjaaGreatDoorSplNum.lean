/- The abstract machine, 14: the steps of shallow programs, for the simplifier. -/
import Derived.Test.YtooogfnmhfocjaaGreatDoorSplRun
import Derived.IntWalk
namespace Go.Proofs.YtooogfnmhfocjaaGreatDoor.Spl
open Go
set_option linter.unusedVariables false
set_option linter.unusedSimpArgs false

attribute [simp] lp_some' mc_true mc_false ok_ret ok_snap

@[simp] theorem aBin_add (k : IntKind) (e : List Nat) (a b : Int) : aBin .add e (.int k a) (.int k b) = some (.int k (k.wrap (a + b))) := by simp [aBin, b2]
@[simp] theorem aBin_sub (k : IntKind) (e : List Nat) (a b : Int) : aBin .sub e (.int k a) (.int k b) = some (.int k (k.wrap (a - b))) := by simp [aBin, b2]
@[simp] theorem aBin_mul (k : IntKind) (e : List Nat) (a b : Int) : aBin .mul e (.int k a) (.int k b) = some (.int k (k.wrap (a * b))) := by simp [aBin, b2]
theorem aBin_quo (k : IntKind) (e : List Nat) (a b : Int) (h : b ≠ 0) : aBin .quo e (.int k a) (.int k b) = some (.int k (k.wrap (a.tdiv b))) := by simp [aBin, b2, h]
theorem aBin_rem (k : IntKind) (e : List Nat) (a b : Int) (h : b ≠ 0) : aBin .rem e (.int k a) (.int k b) = some (.int k (a.tmod b)) := by simp [aBin, b2, h]
@[simp] theorem aBin_lss (k : IntKind) (e : List Nat) (a b : Int) : aBin .lss e (.int k a) (.int k b) = some (.bool (decide (a < b))) := by simp [aBin, b2]
@[simp] theorem aBin_leq (k : IntKind) (e : List Nat) (a b : Int) : aBin .leq e (.int k a) (.int k b) = some (.bool (decide (a ≤ b))) := by simp [aBin, b2]
@[simp] theorem aBin_gtr (k : IntKind) (e : List Nat) (a b : Int) : aBin .gtr e (.int k a) (.int k b) = some (.bool (decide (b < a))) := by simp [aBin, b2]
@[simp] theorem aBin_geq (k : IntKind) (e : List Nat) (a b : Int) : aBin .geq e (.int k a) (.int k b) = some (.bool (decide (b ≤ a))) := by simp [aBin, b2]
@[simp] theorem aBin_eql (k : IntKind) (e : List Nat) (a b : Int) : aBin .eql e (.int k a) (.int k b) = some (.bool (decide (a = b))) := by simp [aBin, b2]; rfl
@[simp] theorem aBin_neq (k : IntKind) (e : List Nat) (a b : Int) : aBin .neq e (.int k a) (.int k b) = some (.bool (decide (a ≠ b))) := by
  simp only [aBin, b2, if_true]
  by_cases h : a = b <;> simp [h]
@[simp] theorem aBin_eqlStr (e : List Nat) (a b : ByteArray) : aBin .eql e (.str a) (.str b) = some (.bool (strEq a b)) := by simp [aBin, s2]
@[simp] theorem aBin_neqStr (e : List Nat) (a b : ByteArray) : aBin .neq e (.str a) (.str b) = some (.bool (!strEq a b)) := by simp [aBin, s2]
@[simp] theorem aBin_eqlNil (i o : Nat) : aBin .eql [3] (.ptr i o) .nilptr = some (.bool false) := rfl
@[simp] theorem aBin_eqlNil' : aBin .eql [3] .nilptr .nilptr = some (.bool true) := rfl
@[simp] theorem aBin_neqNil (i o : Nat) : aBin .neq [3] (.ptr i o) .nilptr = some (.bool true) := rfl
@[simp] theorem aBin_neqNil' : aBin .neq [3] .nilptr .nilptr = some (.bool false) := rfl
@[simp] theorem aUn_not (b : Bool) : aUn .not (.bool b) = some (.bool !b) := rfl
@[simp] theorem aUn_neg (k : IntKind) (a : Int) : aUn .neg (.int k a) = some (.int k (k.wrap (0 - a))) := rfl
@[simp] theorem aNil_ptr (i o : Nat) : aNil (.ptr i o) = some (.ptr i o) := rfl
@[simp] theorem aOff_ptr (d i o : Nat) : aOff d (.ptr i o) = some (.ptr i (o + d)) := rfl
@[simp] theorem aInt_int (k k' : IntKind) (a : Int) : aInt k (.int k' a) = some (.int k (k.wrap a)) := rfl
@[simp] theorem aLenStr_str (s : ByteArray) : aLenStr (.str s) = some (.int .i64 s.size) := rfl
@[simp] theorem aLenS_slice (i o n e : Nat) : aLenS (.slice i o n e) = some (.int .i64 n) := rfl
@[simp] theorem aLenS_nil : aLenS .nilslice = some (.int .i64 0) := rfl
@[simp] theorem aFold_min (k : IntKind) (a b : Int) : aFold aMin2 (.int k a) [.int k b] = some (.int k (min a b)) := by
  simp only [aFold, aMin2]
  congr 2
  split <;> omega
@[simp] theorem aFold_max (k : IntKind) (a b : Int) : aFold aMax2 (.int k a) [.int k b] = some (.int k (max a b)) := by
  simp only [aFold, aMax2]
  congr 2
  split <;> omega

@[simp] theorem Mem.get_set (m : Mem) (i : Nat) (o : AObj) : (m.set i o).get i = o := by simp [Mem.set]
theorem Mem.set_self (m : Mem) (i : Nat) {o : AObj} (h : m.get i = o) : m.set i o = m := by
  cases m
  simp only [Mem.set, Mem.mk.injEq, true_and]
  funext j
  by_cases h' : j = i
  · subst h'; simp; exact h.symm
  · simp [h']

theorem ok_load {β : Type} {sh : Option Nat} {a : AV} {k : Nat → AV → M β} {m : Mem} {Q : β → Mem → Prop} : Ok (fun n => bnd (load sh a) (k n)) m Q ↔ ∃ v, load? sh a m = some v ∧ Ok (fun n => k n v) m Q := by
  rw [ok_op]
  constructor
  · rintro ⟨v, m1, h, hk⟩
    unfold load at h
    obtain ⟨u, hu, he⟩ := Option.map_eq_some_iff.1 h
    cases he
    exact ⟨v, hu, hk⟩
  · rintro ⟨v, h, hk⟩
    exact ⟨v, m, by simp [load, h], hk⟩
/-- A load from an object that is known. -/
theorem load_at {i o ty fz : Nat} {cs : List AV} {m : Mem} (h : m.get i = .cells ty fz cs) : load? none (.ptr i o) m = cs[o]? := by
  simp [load?, Mem.cells?, h, aPart]
theorem load_at' {i o ty fz n : Nat} {cs : List AV} {m : Mem} (h : m.get i = .cells ty fz cs) : load? (some n) (.ptr i o) m = if o + n ≤ cs.length then some (.agg ((cs.drop o).take n)) else none := by
  simp [load?, Mem.cells?, h, aPart]
theorem ok_store {β : Type} {i o ty fz : Nat} {cs : List AV} {v : AV} {k : Nat → AV → M β} {m : Mem} {Q : β → Mem → Prop} (h : m.get i = .cells ty fz cs) (hb : m.base ≤ i) (ho : fz ≤ o) (hl : o < cs.length) (hv : v.one = true) :
    Ok (fun n => bnd (store none (.ptr i o) v) (k n)) m Q ↔ Ok (fun n => k n .undef) (m.set i (.cells ty fz (cs.set o v))) Q := by
  rw [ok_op]
  have e : store none (.ptr i o) v m = some (.undef, m.set i (.cells ty fz (cs.set o v))) := by
    simp [store, hv, bnd, storeCs, forceList_eq, forceNat_eq, h, hb, ho, ret, splice, Nat.succ_le_of_lt hl]
  constructor
  · rintro ⟨u, m1, hs, hk⟩
    rw [e] at hs; cases hs
    exact hk
  · intro hk
    exact ⟨_, _, e, hk⟩
theorem ok_alloc {β : Type} {ty : Nat} {cs : List AV} {k : Nat → AV → M β} {m : Mem} {Q : β → Mem → Prop} : Ok (fun n => bnd (alloc ty cs) (k n)) m Q ↔ Ok (fun n => k n (.ptr m.next 0)) (m.alloc (.cells ty 0 cs)) Q := by
  rw [alloc_def, ok_op]
  constructor
  · rintro ⟨u, m1, hs, hk⟩
    cases hs
    exact hk
  · intro hk
    exact ⟨_, _, rfl, hk⟩
theorem ok_box {β : Type} {ty : Nat} {cs : List AV} {k : Nat → AV → M β} {m : Mem} {Q : β → Mem → Prop} : Ok (fun n => bnd (box ty (.agg cs)) (k n)) m Q ↔ Ok (fun n => k n (.ptr m.next 0)) (m.alloc (.cells ty 0 cs)) Q := ok_alloc
@[simp] theorem one_int (k : IntKind) (n : Int) : (AV.int k n).one = true := by simp [AV.one]
@[simp] theorem one_bool (b : Bool) : (AV.bool b).one = true := by simp [AV.one]
@[simp] theorem one_str (s : ByteArray) : (AV.str s).one = true := by simp [AV.one]
@[simp] theorem one_ptr (i o : Nat) : (AV.ptr i o).one = true := by simp [AV.one]
@[simp] theorem one_nil : AV.nilptr.one = true := by simp [AV.one]
@[simp] theorem one_slice (i o n e : Nat) : (AV.slice i o n e).one = true := by simp [AV.one]
@[simp] theorem one_nilslice : AV.nilslice.one = true := by simp [AV.one]
theorem aBin_shl (k k' : IntKind) (e : List Nat) (a b : Int) (h : 0 ≤ b ∧ b ≤ k.bits) : aBin .shl e (.int k a) (.int k' b) = some (.int k (k.wrap (a * 2 ^ b.toNat))) := by
  have h1 : ¬ b < 0 := by omega
  have h2 : min b.toNat k.bits = b.toNat := by omega
  simp [aBin, sh2, h1, h2]
theorem aBin_shr (k k' : IntKind) (e : List Nat) (a b : Int) (h : 0 ≤ b ∧ b ≤ k.bits) : aBin .shr e (.int k a) (.int k' b) = some (.int k (a.fdiv (2 ^ b.toNat))) := by
  have h1 : ¬ b < 0 := by omega
  have h2 : min b.toNat k.bits = b.toNat := by omega
  simp [aBin, sh2, h1, h2]
/-- Or, of a number and one that has no bits in common with it. -/
theorem aBin_or_u64 (e : List Nat) (a b : Nat) (ha : a * 256 + b < 18446744073709551616) (hb : b < 256) : aBin .or e (.int .u64 ((a * 256 : Nat) : Int)) (.int .u64 (b : Int)) = some (.int .u64 ((a * 256 + b : Nat) : Int)) := by
  simp only [aBin, b2, if_true]
  have e1 : (BitVec.ofInt IntKind.u64.bits ((a * 256 : Nat) : Int) ||| BitVec.ofInt IntKind.u64.bits (b : Int)).toNat = a * 256 + b := by
    show (BitVec.ofInt 64 ((a * 256 : Nat) : Int) ||| BitVec.ofInt 64 (b : Int)).toNat = _
    rw [BitVec.ofInt_natCast, BitVec.ofInt_natCast, BitVec.toNat_or, BitVec.toNat_ofNat, BitVec.toNat_ofNat, Nat.mod_eq_of_lt (Nat.lt_of_le_of_lt (Nat.le_add_right _ b) ha), Nat.mod_eq_of_lt (Nat.lt_of_le_of_lt (Nat.le_add_left _ _) ha)]
    have := Nat.shiftLeft_add_eq_or_of_lt (i := 8) (b := b) (by omega) a
    rw [Nat.shiftLeft_eq] at this
    exact this.symm
  rw [e1, IntWalk.u64_in _ ⟨Int.natCast_nonneg _, by omega⟩]
theorem same_at {ρ : Type} {i o ty fz : Nat} {cs : List AV} {v : AV} {m : Mem} (h : m.get i = .cells ty fz cs) (hv : cs[o]? = some v) (he : AV.eqb v v = true) (k : M ρ) : same none (.ptr i o) v m k = k := by
  simp [same, load_at h, hv, he]
theorem eqb_int (k : IntKind) (n : Int) : AV.eqb (.int k n) (.int k n) = true := by simp [AV.eqb]
theorem eqb_bool (b : Bool) : AV.eqb (.bool b) (.bool b) = true := by simp [AV.eqb]
theorem eqb_str (s : ByteArray) : AV.eqb (.str s) (.str s) = true := by simp [AV.eqb]
theorem eqb_ptr (i o : Nat) : AV.eqb (.ptr i o) (.ptr i o) = true := by simp [AV.eqb]
theorem eqb_slice (i o n e : Nat) : AV.eqb (.slice i o n e) (.slice i o n e) = true := by simp [AV.eqb]
theorem Mem.alloc_set (m : Mem) (o o' : AObj) : (m.alloc o).set m.next o' = m.alloc o' := by
  simp only [Mem.alloc, Mem.set, Mem.mk.injEq, true_and]
  funext j
  by_cases h : j = m.next <;> simp [h]
theorem Mem.get_alloc (m : Mem) (o : AObj) : (m.alloc o).get m.next = o := by simp [Mem.alloc]
end Go.Proofs.YtooogfnmhfocjaaGreatDoor.Spl
