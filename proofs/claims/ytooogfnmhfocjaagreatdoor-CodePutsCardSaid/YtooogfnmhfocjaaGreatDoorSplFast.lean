/- The abstract machine, 24: calls by shallow programs, for closed runs in the kernel. -/
import Derived.Test.YtooogfnmhfocjaaGreatDoorSplExec
namespace Go.Proofs.YtooogfnmhfocjaaGreatDoor.Spl
open Go
set_option linter.unusedVariables false

def arg0 {α : Type} (F : α) (args : List AV) : Option α := match args with | [] => some F | _ => none
def arg1 {α : Type} (F : AV → α) (args : List AV) : Option α := match args with | [a] => some (F a) | _ => none
def arg2 {α : Type} (F : AV → AV → α) (args : List AV) : Option α := match args with | [a, b] => some (F a b) | _ => none
def arg3 {α : Type} (F : AV → AV → AV → α) (args : List AV) : Option α := match args with | [a, b, c] => some (F a b c) | _ => none
def arg4 {α : Type} (F : AV → AV → AV → AV → α) (args : List AV) : Option α := match args with | [a, b, c, d] => some (F a b c d) | _ => none
def arg5 {α : Type} (F : AV → AV → AV → AV → AV → α) (args : List AV) : Option α := match args with | [a, b, c, d, e] => some (F a b c d e) | _ => none
def arg6 {α : Type} (F : AV → AV → AV → AV → AV → AV → α) (args : List AV) : Option α := match args with | [a, b, c, d, e, f] => some (F a b c d e f) | _ => none
theorem arg0_some {α : Type} {F : α} {args : List AV} {x : α} (h : arg0 F args = some x) : args = [] ∧ F = x := by
  unfold arg0 at h
  split at h
  · exact ⟨rfl, Option.some.inj h⟩
  · cases h
theorem arg1_some {α : Type} {F : AV → α} {args : List AV} {x : α} (h : arg1 F args = some x) : ∃ a, args = [a] ∧ F a = x := by
  unfold arg1 at h
  split at h
  · exact ⟨_, rfl, Option.some.inj h⟩
  · cases h
theorem arg2_some {α : Type} {F : AV → AV → α} {args : List AV} {x : α} (h : arg2 F args = some x) : ∃ a b, args = [a, b] ∧ F a b = x := by
  unfold arg2 at h
  split at h
  · exact ⟨_, _, rfl, Option.some.inj h⟩
  · cases h
theorem arg3_some {α : Type} {F : AV → AV → AV → α} {args : List AV} {x : α} (h : arg3 F args = some x) : ∃ a b c, args = [a, b, c] ∧ F a b c = x := by
  unfold arg3 at h
  split at h
  · exact ⟨_, _, _, rfl, Option.some.inj h⟩
  · cases h
theorem arg4_some {α : Type} {F : AV → AV → AV → AV → α} {args : List AV} {x : α} (h : arg4 F args = some x) : ∃ a b c d, args = [a, b, c, d] ∧ F a b c d = x := by
  unfold arg4 at h
  split at h
  · exact ⟨_, _, _, _, rfl, Option.some.inj h⟩
  · cases h
theorem arg5_some {α : Type} {F : AV → AV → AV → AV → AV → α} {args : List AV} {x : α} (h : arg5 F args = some x) : ∃ a b c d e, args = [a, b, c, d, e] ∧ F a b c d e = x := by
  unfold arg5 at h
  split at h
  · exact ⟨_, _, _, _, _, rfl, Option.some.inj h⟩
  · cases h
theorem arg6_some {α : Type} {F : AV → AV → AV → AV → AV → AV → α} {args : List AV} {x : α} (h : arg6 F args = some x) : ∃ a b c d e f, args = [a, b, c, d, e, f] ∧ F a b c d e f = x := by
  unfold arg6 at h
  split at h
  · exact ⟨_, _, _, _, _, _, rfl, Option.some.inj h⟩
  · cases h
theorem step_some {α : Type} {f k : Nat} {A B : Option α} {x : α} (h : (if f = k then A else B) = some x) : (f = k ∧ A = some x) ∨ B = some x := by
  split at h
  · exact .inl ⟨by assumption, h⟩
  · exact .inr h

abbrev Table := (Nat → List AV → M AV) → Nat → Nat → List AV → Option (M AV)
/-- Calls, by a table of shallow programs. -/
def fast (P : Program) (tab : Table) (ext : Ext) : Nat → Nat → List AV → M AV
  | 0, _, _ => fail
  | n + 1, f, args =>
    match ext f with
    | some g => g args
    | none =>
      match tab (fast P tab ext n) n f args with
      | some x => x
      | none => fcall P ext (n + 1) f args
theorem fast_eq {P : Program} {tab : Table} {ext : Ext} (h : ∀ n f args x, ext f = none → tab (fcall P ext n) n f args = some x → fcall P ext (n + 1) f args = x) : ∀ n, fast P tab ext n = fcall P ext n
  | 0 => rfl
  | n + 1 => by
    funext f args
    have ih := fast_eq h n
    unfold fast
    cases he : ext f with
    | some g => simp only; unfold fcall; rw [he]
    | none =>
      simp only
      rw [ih]
      cases ht : tab (fcall P ext n) n f args with
      | none => rfl
      | some x => simp only; exact (h n f args x he ht).symm
end Go.Proofs.YtooogfnmhfocjaaGreatDoor.Spl
