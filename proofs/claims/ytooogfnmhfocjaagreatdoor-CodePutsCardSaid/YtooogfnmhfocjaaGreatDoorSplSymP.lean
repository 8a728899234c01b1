/- Plain: parts in a row, and the numbers that are coded in them. -/
import Derived.Test.YtooogfnmhfocjaaGreatDoorSplBuf
namespace Go.Proofs.YtooogfnmhfocjaaGreatDoor.Spl
open Go
set_option linter.unusedVariables false
set_option linter.unusedSimpArgs false

structure Pt where
  lo : Nat
  hi : Nat
  t : Nat
def Pt.Right (p : Pt) : Prop := p.lo < p.hi ∧ p.hi ≤ p.t ∧ p.t ≤ 65536
def Rights (ps : List Pt) : Prop := ∀ p ∈ ps, p.Right
def Iv.pt (x : Iv) (p : Pt) : Iv := x.code p.lo p.hi p.t
def Iv.parts (ps : List Pt) (x : Iv) : Iv := ps.foldl Iv.pt x
theorem Iv.parts_append (a b : List Pt) (x : Iv) : x.parts (a ++ b) = (x.parts a).parts b := by simp [Iv.parts, List.foldl_append]
theorem Iv.parts_cons (p : Pt) (b : List Pt) (x : Iv) : x.parts (p :: b) = (x.code p.lo p.hi p.t).parts b := rfl
theorem Rights.append {a b : List Pt} (h : Rights a) (g : Rights b) : Rights (a ++ b) := fun p hp => by
  rcases List.mem_append.1 hp with h1 | h1
  · exact h p h1
  · exact g p h1
theorem Rights.cons {p : Pt} {b : List Pt} (h : p.Right) (g : Rights b) : Rights (p :: b) := fun q hq => by
  rcases List.mem_cons.1 hq with h1 | h1
  · subst h1; exact h
  · exact g q h1
theorem Rights.nil : Rights [] := fun p hp => by simp at hp
theorem Rights.head {p : Pt} {b : List Pt} (h : Rights (p :: b)) : p.Right := h p (by simp)
theorem Rights.tail {p : Pt} {b : List Pt} (h : Rights (p :: b)) : Rights b := fun q hq => h q (by simp [hq])
theorem Iv.parts_fits : ∀ {ps : List Pt} {x : Iv}, x.Fits → Rights ps → (x.parts ps).Fits
  | [], x, hx, _ => hx
  | p :: ps, x, hx, h => Iv.parts_fits (ps := ps) (Iv.code_fits hx h.head) h.tail
theorem Iv.parts_n : ∀ (ps : List Pt) (x : Iv), (x.parts ps).n ≤ x.n + 3 * ps.length
  | [], x => by simp [Iv.parts]
  | p :: ps, x => by
    have h1 := Iv.parts_n ps (x.pt p)
    have h2 : (x.pt p).n ≤ x.n + 3 := (Iv.code_n p.lo p.hi p.t x).2
    have h3 : x.parts (p :: ps) = (x.pt p).parts ps := rfl
    rw [h3, List.length_cons]
    omega
theorem Iv.parts_sub : ∀ {ps : List Pt} {x : Iv}, Rights ps → x.Sub (x.parts ps)
  | [], x, _ => Iv.Sub.refl x
  | p :: ps, x, h => (Iv.code_sub x ⟨h.head.1, h.head.2.1⟩).trans (Iv.parts_sub (ps := ps) (x := x.pt p) h.tail)
theorem pre_add (S : List UInt8) (n : Nat) : ∀ k, ∃ r, r < 256 ^ k ∧ pre S (n + k) = pre S n * 256 ^ k + r
  | 0 => ⟨0, by decide, by simp⟩
  | k + 1 => by
    obtain ⟨r, h1, h2⟩ := pre_add S n k
    have hb := hd_lt (S.drop (n + k))
    refine ⟨r * 256 + hd (S.drop (n + k)), by rw [Nat.pow_succ]; omega, ?_⟩
    rw [← Nat.add_assoc, pre, h2, Nat.pow_succ, Nat.add_mul, Nat.mul_assoc]
    omega
theorem within_sub {S : List UInt8} {x y : Iv} (h : x.Sub y) (hw : Within S y) : Within S x := by
  obtain ⟨k, h1, h2, h3⟩ := h
  obtain ⟨hw1, hw2⟩ := hw
  obtain ⟨r, hr, he⟩ := pre_add S (x.n + 4) k
  rw [show y.n + 4 = x.n + 4 + k by omega, he] at hw1 hw2
  have hk : 0 < 256 ^ k := Nat.pow_pos (by decide)
  constructor
  · have : x.V * 256 ^ k < (pre S (x.n + 4) + 1) * 256 ^ k := by rw [Nat.add_mul]; omega
    have := Nat.lt_of_mul_lt_mul_right this
    omega
  · have : pre S (x.n + 4) * 256 ^ k < (x.V + x.R) * 256 ^ k := by omega
    exact Nat.lt_of_mul_lt_mul_right this

/-- One of so many values. -/
def one (v t : Nat) : Pt := ⟨v, v + 1, t⟩
theorem one_right {v t : Nat} (h : v < t) (ht : t ≤ 65536) : (one v t).Right := ⟨Nat.lt_succ_self _, h, ht⟩

/-- Bits. -/
def bitsP (n v : Nat) : List Pt :=
  if h : 8 < n then one (v / 2 ^ (n - 8) % 256) 256 :: bitsP (n - 8) v
  else if 0 < n then [one (v % 2 ^ n) (2 ^ n)] else []
termination_by n
theorem bitsP_big {n v : Nat} (h : 8 < n) : bitsP n v = one (v / 2 ^ (n - 8) % 256) 256 :: bitsP (n - 8) v := by rw [bitsP, dif_pos h]
theorem bitsP_few {n v : Nat} (h : ¬ 8 < n) (h0 : 0 < n) : bitsP n v = [one (v % 2 ^ n) (2 ^ n)] := by rw [bitsP, dif_neg h, if_pos h0]
theorem bitsP_none (v : Nat) : bitsP 0 v = [] := by rw [bitsP]; simp
theorem bitsP_right (n v : Nat) : Rights (bitsP n v) := by
  induction n using Nat.strongRecOn with
  | _ n ih =>
    by_cases h : 8 < n
    · rw [bitsP_big h]
      exact Rights.cons (one_right (Nat.mod_lt _ (by decide)) (by decide)) (ih _ (by omega))
    · by_cases h0 : 0 < n
      · rw [bitsP_few h h0]
        have hp : 2 ^ n ≤ 2 ^ 8 := Nat.pow_le_pow_right (by decide) (by omega)
        exact Rights.cons (one_right (Nat.mod_lt _ (Nat.pow_pos (by decide))) (by omega)) Rights.nil
      · obtain rfl : n = 0 := by omega
        rw [bitsP_none]; exact Rights.nil
theorem bitsP_length (n v : Nat) : (bitsP n v).length ≤ n := by
  induction n using Nat.strongRecOn with
  | _ n ih =>
    by_cases h : 8 < n
    · rw [bitsP_big h, List.length_cons]
      have := ih (n - 8) (by omega)
      omega
    · by_cases h0 : 0 < n
      · rw [bitsP_few h h0]; simp; omega
      · obtain rfl : n = 0 := by omega
        rw [bitsP_none]; simp
/-- Bits, if they may be. -/
def bitsO (v n : Int) : Option (List Pt) := if 0 ≤ n ∧ n ≤ 31 ∧ 0 ≤ v ∧ v < 2 ^ n.toNat then some (bitsP n.toNat v.toNat) else none

/-- How many lower bits a number below some one has. -/
def shiftOf (n : Nat) : Nat := if n - 1 < 4096 then 0 else if n - 1 < 1048576 then 8 else if n - 1 < 268435456 then 16 else 24
theorem shiftOf_le (n : Nat) : shiftOf n ≤ 24 := by unfold shiftOf; split <;> (try split) <;> (try split) <;> omega
theorem shiftOf_lt {n : Nat} (h : n ≤ 2147483648) : (n - 1) / 2 ^ shiftOf n < 4096 := by
  unfold shiftOf
  split
  · simpa using (by assumption)
  · split
    · rw [Nat.div_lt_iff_lt_mul (by decide)]; omega
    · split
      · rw [Nat.div_lt_iff_lt_mul (by decide)]; omega
      · rw [Nat.div_lt_iff_lt_mul (by decide)]; omega
def belowP (n v : Nat) : List Pt := one (v / 2 ^ shiftOf n) ((n - 1) / 2 ^ shiftOf n + 1) :: bitsP (shiftOf n) (v % 2 ^ shiftOf n)
theorem belowP_one {n v : Nat} (hn : n ≤ 2147483648) (hv : v < n) : (one (v / 2 ^ shiftOf n) ((n - 1) / 2 ^ shiftOf n + 1)).Right := by
  have h1 := shiftOf_lt hn
  exact one_right (Nat.lt_succ_of_le (Nat.div_le_div_right (by omega))) (by omega)
theorem belowP_right {n v : Nat} (hn : n ≤ 2147483648) (hv : v < n) : Rights (belowP n v) := Rights.cons (belowP_one hn hv) (bitsP_right _ _)
def belowO (v n : Int) : Option (List Pt) := if 1 ≤ n ∧ n ≤ 2147483648 ∧ 0 ≤ v ∧ v < n then some (belowP n.toNat v.toNat) else none

/-- The part of a difference. -/
def near (v : Int) : Pt :=
  if v = 0 then ⟨0, 24, 64⟩ else if v = -1 then ⟨24, 32, 64⟩ else if v = 1 then ⟨32, 40, 64⟩ else if v = -2 then ⟨40, 45, 64⟩
  else if v = 2 then ⟨45, 50, 64⟩ else if v = -3 then ⟨50, 53, 64⟩ else if v = 3 then ⟨53, 56, 64⟩ else ⟨56, 64, 64⟩
def deltaP (v : Int) : List Pt :=
  near v :: (if -3 ≤ v ∧ v ≤ 3 then [] else if 0 < v then bitsP 1 1 ++ belowP 64 (v - 4).toNat else bitsP 1 0 ++ belowP 64 (-v - 4).toNat)
theorem near_right (v : Int) : (near v).Right := by
  unfold near Pt.Right
  repeat' split
  all_goals simp
def deltaO (v : Int) : Option (List Pt) := if -67 ≤ v ∧ v ≤ 67 then some (deltaP v) else none
theorem deltaP_right {v : Int} (h : -67 ≤ v ∧ v ≤ 67) : Rights (deltaP v) := by
  unfold deltaP
  refine Rights.cons (near_right v) ?_
  split
  · exact Rights.nil
  · split
    · exact (bitsP_right _ _).append (belowP_right (by decide) (by omega))
    · exact (bitsP_right _ _).append (belowP_right (by decide) (by omega))

/-- A number that is coded. -/
structure Itm where
  k : Int
  v : Int
  n : Int
def Itm.o (x : Itm) : Option (List Pt) := if x.k = 0 then bitsO x.v x.n else if x.k = 1 then belowO x.v x.n else deltaO x.v
theorem bitsO_right {v n : Int} {ps : List Pt} (h : bitsO v n = some ps) : Rights ps ∧ ps.length ≤ 40 := by
  unfold bitsO at h
  split at h
  · cases h
    have := bitsP_length n.toNat v.toNat
    exact ⟨bitsP_right _ _, by omega⟩
  · cases h
theorem belowP_length (n v : Nat) : (belowP n v).length ≤ 25 := by
  have h1 := shiftOf_le n
  have h2 := bitsP_length (shiftOf n) (v % 2 ^ shiftOf n)
  simp only [belowP, List.length_cons]
  omega
theorem belowO_right {v n : Int} {ps : List Pt} (h : belowO v n = some ps) : Rights ps ∧ ps.length ≤ 40 := by
  unfold belowO at h
  split at h
  · cases h
    have := belowP_length n.toNat v.toNat
    exact ⟨belowP_right (by omega) (by omega), by omega⟩
  · cases h
theorem deltaO_right {v : Int} {ps : List Pt} (h : deltaO v = some ps) : Rights ps ∧ ps.length ≤ 40 := by
  unfold deltaO at h
  split at h
  · cases h
    refine ⟨deltaP_right (by assumption), ?_⟩
    have h1 := bitsP_length 1 1
    have h2 := bitsP_length 1 0
    have h3 := belowP_length 64 (v - 4).toNat
    have h4 := belowP_length 64 (-v - 4).toNat
    unfold deltaP
    split
    · simp
    · split <;> simp only [List.length_cons, List.length_append] <;> omega
  · cases h
theorem Itm.right {x : Itm} {ps : List Pt} (h : x.o = some ps) : Rights ps ∧ ps.length ≤ 40 := by
  unfold Itm.o at h
  split at h
  · exact bitsO_right h
  · split at h
    · exact belowO_right h
    · exact deltaO_right h

/-! numbers taken -/

def Dec.gets (t : Nat) (d : Dec) : Dec := d.take (d.place t) (d.place t + 1) t
def gbits (n acc : Nat) (d : Dec) : Nat × Dec :=
  if h : 8 < n then gbits (n - 8) (acc * 256 + d.place 256) (d.gets 256)
  else if 0 < n then (acc * 2 ^ n + d.place (2 ^ n), d.gets (2 ^ n)) else (acc, d)
termination_by n
theorem gbits_big {n acc : Nat} {d : Dec} (h : 8 < n) : gbits n acc d = gbits (n - 8) (acc * 256 + d.place 256) (d.gets 256) := by rw [gbits, dif_pos h]
theorem gbits_few {n acc : Nat} {d : Dec} (h : ¬ 8 < n) (h0 : 0 < n) : gbits n acc d = (acc * 2 ^ n + d.place (2 ^ n), d.gets (2 ^ n)) := by rw [gbits, dif_neg h, if_pos h0]
theorem gbits_none {acc : Nat} {d : Dec} : gbits 0 acc d = (acc, d) := by rw [gbits]; simp
theorem place_lt (d : Dec) {t : Nat} (h : 1 ≤ t) : d.place t < t := by unfold Dec.place; omega
theorem gets_fits {d : Dec} {t : Nat} (h : d.Fits) (ht : 1 ≤ t ∧ t ≤ 65536) : (d.gets t).Fits := take_fits h ⟨Nat.lt_succ_self _, place_lt d ht.1, ht.2⟩
theorem pow8 {n : Nat} (h : ¬ 8 < n) : 1 ≤ 2 ^ n ∧ 2 ^ n ≤ 65536 := ⟨Nat.pow_pos (by decide), Nat.le_trans (Nat.pow_le_pow_right (by decide) (show n ≤ 8 by omega)) (by decide)⟩
theorem gbits_fits {n : Nat} : ∀ {acc : Nat} {d : Dec}, d.Fits → (gbits n acc d).2.Fits := by
  induction n using Nat.strongRecOn with
  | _ n ih =>
    intro acc d h
    by_cases h8 : 8 < n
    · rw [gbits_big h8]; exact ih _ (by omega) (gets_fits h ⟨by decide, by decide⟩)
    · by_cases h0 : 0 < n
      · rw [gbits_few h8 h0]; exact gets_fits h (pow8 h8)
      · obtain rfl : n = 0 := by omega
        rw [gbits_none]; exact h
theorem gbits_lt {n : Nat} : ∀ (acc m : Nat) (d : Dec), acc < 2 ^ m → (gbits n acc d).1 < 2 ^ (m + n) := by
  induction n using Nat.strongRecOn with
  | _ n ih =>
    intro acc m d h
    by_cases h8 : 8 < n
    · rw [gbits_big h8]
      have hp := place_lt d (t := 256) (by decide)
      have := ih (n - 8) (by omega) (acc * 256 + d.place 256) (m + 8) (d.gets 256) (by rw [Nat.pow_add]; omega)
      rwa [show m + 8 + (n - 8) = m + n by omega] at this
    · by_cases h0 : 0 < n
      · rw [gbits_few h8 h0]
        have hp := place_lt d (pow8 h8).1
        show acc * 2 ^ n + d.place (2 ^ n) < 2 ^ (m + n)
        rw [Nat.pow_add]
        have : (acc + 1) * 2 ^ n ≤ 2 ^ m * 2 ^ n := Nat.mul_le_mul_right _ h
        rw [Nat.add_mul] at this
        omega
      · obtain rfl : n = 0 := by omega
        rw [gbits_none]; exact h
/-- Bits taken. -/
def gbitsV (n : Int) (d : Dec) : Nat × Dec := if 0 ≤ n ∧ n ≤ 31 then gbits n.toNat 0 d else (0, d)
theorem gbitsV_fits {n : Int} {d : Dec} (h : d.Fits) : (gbitsV n d).2.Fits := by
  unfold gbitsV
  split
  · exact gbits_fits h
  · exact h
/-- A number below another one, taken. -/
def gbelow (n : Nat) (d : Dec) : Nat × Dec :=
  let b := gbits (shiftOf n) 0 (d.gets ((n - 1) / 2 ^ shiftOf n + 1))
  (d.place ((n - 1) / 2 ^ shiftOf n + 1) * 2 ^ shiftOf n + b.1, b.2)
def gbelowV (n : Int) (d : Dec) : (Nat × Bool) × Dec :=
  if 1 ≤ n ∧ n ≤ 2147483648 then (if (gbelow n.toNat d).1 < n.toNat then ((gbelow n.toNat d).1, true) else (0, false), (gbelow n.toNat d).2) else ((0, false), d)
theorem gbelow_fits {n : Nat} {d : Dec} (h : d.Fits) (hn : n ≤ 2147483648) : (gbelow n d).2.Fits := by
  have := shiftOf_lt hn
  exact gbits_fits (gets_fits h ⟨Nat.le_add_left 1 _, Nat.le_trans this (by decide)⟩)
theorem gbelowV_fits {n : Int} {d : Dec} (h : d.Fits) : (gbelowV n d).2.Fits := by
  unfold gbelowV
  split
  · exact gbelow_fits h (by omega)
  · exact h
/-- Which difference a place says; none: it is far. -/
def nearV (x : Nat) : Option Int := if x < 24 then some 0 else if x < 32 then some (-1) else if x < 40 then some 1 else if x < 45 then some (-2) else if x < 50 then some 2 else if x < 53 then some (-3) else if x < 56 then some 3 else none
def gfar (d : Dec) : Int × Dec :=
  let a := gbits 1 0 (d.take 56 64 64)
  let b := gbelowV 64 a.2
  (if a.1 = 1 then (b.1.1 : Int) + 4 else -((b.1.1 : Int) + 4), b.2)
def gdelta (d : Dec) : Int × Dec :=
  match nearV (d.place 64) with
  | some v => (v, d.take (near v).lo (near v).hi 64)
  | none => gfar d
theorem near_right' (v : Int) : (near v).lo < (near v).hi ∧ (near v).hi ≤ 64 ∧ 64 ≤ 65536 := by
  have h := near_right v
  have ht : (near v).t = 64 := by unfold near; split <;> (try rfl) <;> split <;> (try rfl) <;> split <;> (try rfl) <;> split <;> (try rfl) <;> split <;> (try rfl) <;> split <;> (try rfl) <;> split <;> rfl
  unfold Pt.Right at h
  rw [ht] at h
  exact h
theorem gdelta_fits {d : Dec} (h : d.Fits) : (gdelta d).2.Fits := by
  unfold gdelta
  split
  · exact take_fits h (near_right' _)
  · exact gbelowV_fits (gbits_fits (take_fits h (by decide)))

/-! what was coded is taken -/

theorem at_one {S : List UInt8} {x : Iv} {d : Dec} {v t : Nat} (h : d.At S x) (hx : x.Fits) (hv : v < t) (ht : t ≤ 65536) (hw : Within S (x.pt (one v t))) : d.place t = v ∧ (d.gets t).At S (x.pt (one v t)) := by
  have hp := at_place h hx ⟨Nat.lt_succ_self v, hv, ht⟩ hw
  have e : d.place t = v := by omega
  refine ⟨e, ?_⟩
  unfold Dec.gets
  rw [e]
  exact at_take h hw
theorem at_bits {S : List UInt8} {v : Nat} {n : Nat} : ∀ {acc : Nat} {x : Iv} {d : Dec}, d.At S x → x.Fits → Within S (x.parts (bitsP n v)) → (gbits n acc d).1 = acc * 2 ^ n + v % 2 ^ n ∧ (gbits n acc d).2.At S (x.parts (bitsP n v)) := by
  induction n using Nat.strongRecOn with
  | _ n ih =>
    intro acc x d h hx hw
    by_cases h8 : 8 < n
    · rw [bitsP_big h8] at hw ⊢
      have hr : (one (v / 2 ^ (n - 8) % 256) 256).Right := one_right (Nat.mod_lt _ (by decide)) (by decide)
      have hw1 : Within S (x.pt (one (v / 2 ^ (n - 8) % 256) 256)) := within_sub (Iv.parts_sub (x := x.pt (one (v / 2 ^ (n - 8) % 256) 256)) (bitsP_right (n - 8) v)) hw
      obtain ⟨e1, e2⟩ := at_one h hx (Nat.mod_lt _ (by decide)) (by decide) hw1
      obtain ⟨f1, f2⟩ := ih (n - 8) (by omega) (acc := acc * 256 + d.place 256) e2 (Iv.code_fits hx hr) hw
      rw [gbits_big h8]
      refine ⟨?_, f2⟩
      rw [f1, e1]
      have hp : 2 ^ n = 2 ^ (n - 8) * 256 := by rw [show (256 : Nat) = 2 ^ 8 by decide, ← Nat.pow_add, show n - 8 + 8 = n by omega]
      rw [hp, Nat.add_mul, Nat.mul_assoc, Nat.mul_comm 256, Nat.mod_mul, Nat.mul_comm (v / 2 ^ (n - 8) % 256)]
      omega
    · by_cases h0 : 0 < n
      · rw [bitsP_few h8 h0] at hw ⊢
        obtain ⟨e1, e2⟩ := at_one h hx (Nat.mod_lt _ (pow8 h8).1) (pow8 h8).2 hw
        rw [gbits_few h8 h0]
        exact ⟨by show acc * 2 ^ n + d.place (2 ^ n) = _; rw [e1], e2⟩
      · obtain rfl : n = 0 := by omega
        rw [gbits_none, bitsP_none] at *
        exact ⟨by simp [Nat.mod_one], h⟩
theorem at_below {S : List UInt8} {n v : Nat} {x : Iv} {d : Dec} (h : d.At S x) (hx : x.Fits) (hn : n ≤ 2147483648) (hv : v < n) (hw : Within S (x.parts (belowP n v))) : (gbelow n d).1 = v ∧ (gbelow n d).2.At S (x.parts (belowP n v)) := by
  have hr := belowP_one hn hv
  have hlt := shiftOf_lt hn
  have hw1 : Within S (x.pt (one (v / 2 ^ shiftOf n) ((n - 1) / 2 ^ shiftOf n + 1))) := within_sub (Iv.parts_sub (x := x.pt (one (v / 2 ^ shiftOf n) ((n - 1) / 2 ^ shiftOf n + 1))) (bitsP_right _ _)) hw
  obtain ⟨e1, e2⟩ := at_one (v := v / 2 ^ shiftOf n) (t := (n - 1) / 2 ^ shiftOf n + 1) h hx hr.2.1 hr.2.2 hw1
  obtain ⟨f1, f2⟩ := at_bits (n := shiftOf n) (v := v % 2 ^ shiftOf n) (acc := 0) e2 (Iv.code_fits hx hr) hw
  refine ⟨?_, f2⟩
  show d.place ((n - 1) / 2 ^ shiftOf n + 1) * 2 ^ shiftOf n + (gbits (shiftOf n) 0 (d.gets ((n - 1) / 2 ^ shiftOf n + 1))).1 = v
  rw [f1, e1]
  have := Nat.div_add_mod v (2 ^ shiftOf n)
  rw [Nat.mod_mod, Nat.mul_comm (v / 2 ^ shiftOf n)]
  omega
end Go.Proofs.YtooogfnmhfocjaaGreatDoor.Spl
