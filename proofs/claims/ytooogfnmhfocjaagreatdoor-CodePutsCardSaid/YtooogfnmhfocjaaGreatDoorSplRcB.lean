/- Both decoders side by side. -/
import Derived.Test.YtooogfnmhfocjaaGreatDoorSplRc
import Derived.Test.YtooogfnmhfocjaaGreatDoorSplArg
namespace SplA
open Go.Proofs.YtooogfnmhfocjaaGreatDoor.Spl Go Go.Proofs
set_option maxRecDepth 100000
set_option linter.unusedVariables false
set_option linter.unusedSimpArgs false

def placeV (d : Dec) (t : Int) : Int := if 1 ≤ t ∧ t ≤ 65536 then d.place t.toNat else 0
theorem place_any {i : Nat} {t : Int} {s : Bool} {r : Nat} {d : Dec} {m : Mem} {Q : AV → Mem → Prop} (h : m.get i = decObj s r d.code d.l) (hb : m.base ≤ i) (hr : rngOf s r = d.rng) (hd : d.Fits)
    (hq : ∀ s' r', rngOf s' r' = d.rng → Q (.int .i64 (placeV d t)) (m.set i (decObj s' r' d.code d.l))) : Ok (R fn_rc_Decoder_Place [.ptr i 0, .int .i64 t]) m Q := by
  by_cases ht : 1 ≤ t ∧ t ≤ 65536
  · obtain ⟨n, rfl⟩ : ∃ n : Nat, t = n := ⟨t.toNat, by omega⟩
    refine place_ok h hb hr hd (by omega) ?_
    have := hq true d.rng (by simp [rngOf])
    simpa [placeV, ht] using this
  · refine place_not h ht ?_
    have := hq s r hr
    rw [← h, m.set_self i rfl] at this
    simpa [placeV, ht] using this
theorem ref_place_any {i a : Nat} {t : Int} {S : List UInt8} {d : Dec} {m : Mem} {Q : AV → Mem → Prop} (h : m.get i = refObj S a d.code d.rng) (hd : d.Fits)
    (hq : Q (.int .i64 (placeV d t)) m) : Ok (R fn_ref04_Decoder_Place [.ptr i 0, .int .i64 t]) m Q := by
  by_cases ht : 1 ≤ t ∧ t ≤ 65536
  · obtain ⟨n, rfl⟩ : ∃ n : Nat, t = n := ⟨t.toNat, by omega⟩
    refine ref_place_ok h hd (by omega) ?_
    simpa [placeV, ht] using hq
  · refine ref_place_not ht ?_
    simpa [placeV, ht] using hq

theorem awake_ok {m : Mem} {Q : AV → Mem → Prop} (hq : Q (.bool true) m) : Ok (R fn_law22_awake []) m Q :=
  Ok.told (k := trueAlways) rfl rfl hq

/-- Both decoders, in a memory. -/
structure Both (S : List UInt8) (m0 : Mem) (i1 i2 : Nat) (d : Dec) (a : Nat) (m : Mem) : Prop where
  old : Old m0 m
  dec : ∃ s r, m.get i1 = decObj s r d.code d.l ∧ rngOf s r = d.rng
  ref : m.get i2 = refObj S a d.code d.rng
  fits : d.Fits
  drop : S.drop a = d.l
  b1 : m.base ≤ i1
  n1 : i1 < m.next
  b2 : m.base ≤ i2
  n2 : i2 < m.next
  ne : i1 ≠ i2
theorem Both.alloc {S : List UInt8} {m0 m : Mem} {i1 i2 a : Nat} {d : Dec} (h : Both S m0 i1 i2 d a m) (o : AObj) : Both S m0 i1 i2 d a (m.alloc o) where
  old := h.old.alloc (by have := h.b1; have := h.n1; omega) o
  dec := by
    obtain ⟨s, r, h1, h2⟩ := h.dec
    exact ⟨s, r, by rw [get_alloc_ne (by have := h.n1; omega)]; exact h1, h2⟩
  ref := by rw [get_alloc_ne (by have := h.n2; omega)]; exact h.ref
  fits := h.fits
  drop := h.drop
  b1 := h.b1
  n1 := Nat.lt_succ_of_lt h.n1
  b2 := h.b2
  n2 := Nat.lt_succ_of_lt h.n2
  ne := h.ne
theorem Both.setOther {S : List UInt8} {m0 m : Mem} {i1 i2 a j : Nat} {d : Dec} (h : Both S m0 i1 i2 d a m) (hb : m.base ≤ j) (h1 : j ≠ i1) (h2 : j ≠ i2) (o : AObj) : Both S m0 i1 i2 d a (m.set j o) where
  old := h.old.set hb o
  dec := by
    obtain ⟨s, r, h3, h4⟩ := h.dec
    exact ⟨s, r, by rw [get_set_ne (fun e => h1 e.symm)]; exact h3, h4⟩
  ref := by rw [get_set_ne (fun e => h2 e.symm)]; exact h.ref
  fits := h.fits
  drop := h.drop
  b1 := h.b1
  n1 := h.n1
  b2 := h.b2
  n2 := h.n2
  ne := h.ne
theorem Both.setDec {S : List UInt8} {m0 m : Mem} {i1 i2 a : Nat} {d : Dec} (h : Both S m0 i1 i2 d a m) {s : Bool} {r : Nat} (hr : rngOf s r = d.rng) : Both S m0 i1 i2 d a (m.set i1 (decObj s r d.code d.l)) where
  old := h.old.set h.b1 _
  dec := ⟨s, r, by simp, hr⟩
  ref := by rw [get_set_ne (fun e => h.ne e.symm)]; exact h.ref
  fits := h.fits
  drop := h.drop
  b1 := h.b1
  n1 := h.n1
  b2 := h.b2
  n2 := h.n2
  ne := h.ne
theorem Both.take {S : List UInt8} {m0 m : Mem} {i1 i2 a a' lo hi t : Nat} {d : Dec} (h : Both S m0 i1 i2 d a m) (hp : lo < hi ∧ hi ≤ t ∧ t ≤ 65536) (ha : S.drop a' = (d.take lo hi t).l) :
    Both S m0 i1 i2 (d.take lo hi t) a' ((m.set i1 (decObj true (d.take lo hi t).rng (d.take lo hi t).code (d.take lo hi t).l)).set i2 (refObj S a' (d.take lo hi t).code (d.take lo hi t).rng)) where
  old := (h.old.set h.b1 _).set h.b2 _
  dec := ⟨true, (d.take lo hi t).rng, by rw [get_set_ne h.ne]; simp, by simp [rngOf]⟩
  ref := by simp
  fits := take_fits h.fits hp
  drop := ha
  b1 := h.b1
  n1 := h.n1
  b2 := h.b2
  n2 := h.n2
  ne := h.ne

theorem both_places {S : List UInt8} {m0 m : Mem} {i1 i2 a : Nat} {d : Dec} {t : Int} {Q : AV → Mem → Prop} {k : Nat → AV → M AV} (h : Both S m0 i1 i2 d a m)
    (hq : ∀ m', m'.next = m.next → (∀ j, j ≠ i1 → m'.get j = m.get j) → Both S m0 i1 i2 d a m' → Ok (fun n => k n (.int .i64 (placeV d t))) m' Q) : Ok (fun n => bnd (R fn_rc_Decoder_Place [.ptr i1 0, .int .i64 t] n) (k n)) m Q := by
  obtain ⟨s, r, h1, h2⟩ := h.dec
  exact Ok.bnd (place_any h1 h.b1 h2 h.fits fun s' r' hr => hq _ rfl (fun j hj => get_set_ne hj) (h.setDec hr))

theorem both_ref {S : List UInt8} {m0 m : Mem} {i1 i2 a : Nat} {d : Dec} {t : Int} {Q : AV → Mem → Prop} {k : Nat → AV → M AV} (h : Both S m0 i1 i2 d a m)
    (hq : Ok (fun n => k n (.int .i64 (placeV d t))) m Q) : Ok (fun n => bnd (R fn_ref04_Decoder_Place [.ptr i2 0, .int .i64 t] n) (k n)) m Q :=
  Ok.bnd (ref_place_any h.ref h.fits hq)

theorem start_rng (l : List UInt8) : (Dec.start l).rng = 4294967295 := (init_bounds (n := 4) (d := ⟨4294967295, 0, l⟩) (j := 0) (by show 0 < 256 ^ 0; decide)).2
end SplA
