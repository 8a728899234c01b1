/- The abstract machine, 10: regions that draw their order. -/
import Derived.Test.YtooogfnmhfocjaaGreatDoorSplCode
import Derived.Orders
namespace Go.Proofs.YtooogfnmhfocjaaGreatDoor.Spl
open Go Go.RowKit Go.Lib
set_option linter.unusedVariables false
set_option linter.unusedSimpArgs false

theorem everyI_spec {p : Nat → Oper → Bool} : ∀ {os : List Oper} {i : Nat}, everyI i p os = true → ∀ q o, os[q]? = some o → p (i + q) o = true
  | [], _, _, q, o, h => by simp at h
  | x :: os, i, h, 0, o, ho => by
    simp only [everyI, Bool.and_eq_true] at h
    simp at ho; subst ho; exact h.1
  | x :: os, i, h, q + 1, o, ho => by
    simp only [everyI, Bool.and_eq_true] at h
    have := everyI_spec h.2 q o (by simpa using ho)
    rwa [show i + 1 + q = i + (q + 1) by omega] at this

/-! what stands ahead -/

theorem befores_spec : ∀ (os : List Oper) (acc : List Nat), (befores acc os).length = acc.length + os.length ∧ (befores acc os).take acc.length = acc ∧
    ∀ q o, os[q]? = some o → (befores acc os)[acc.length + q]? = some (beforeOf ((befores acc os).take (acc.length + q)) o)
  | [], acc => by simp [befores]
  | x :: os, acc => by
    obtain ⟨h1, h2, h3⟩ := befores_spec os (acc ++ [beforeOf acc x])
    simp only [List.length_append, List.length_singleton] at h1 h2 h3
    have ht : (befores (acc ++ [beforeOf acc x]) os).take acc.length = acc := by
      have := congrArg (fun l => l.take acc.length) h2
      simpa [List.take_take] using this
    refine ⟨by simp [befores, h1]; omega, by simpa [befores] using ht, fun q o ho => ?_⟩
    cases q with
    | zero =>
      simp at ho; subst ho
      simp only [befores, Nat.add_zero, ht]
      have := congrArg (fun l => l[acc.length]?) h2
      simpa [List.getElem?_take] using this
    | succ q =>
      have := h3 q o (by simpa using ho)
      simp only [befores]
      rw [show acc.length + (q + 1) = acc.length + 1 + q by omega]
      exact this

theorem beforeOf_bit {acc : List Nat} {o : Oper} {j : Nat} (h : (beforeOf acc o).testBit j = true) : ∃ e ∈ o.after.toList, Region.binds .any e = true ∧ (j = e.on ∨ (acc.getD e.on 0).testBit j = true) := by
  unfold beforeOf at h
  generalize o.after.toList = l at h
  induction l with
  | nil => simp at h
  | cons e l ih =>
    simp only [List.foldr_cons] at h
    by_cases hb : Region.binds .any e = true
    · rw [if_pos hb] at h
      simp only [Nat.testBit_or, Bool.or_eq_true] at h
      rcases h with (h | h) | h
      · obtain ⟨e', h1, h2⟩ := ih h; exact ⟨e', .tail _ h1, h2⟩
      · rw [Nat.testBit_two_pow] at h
        exact ⟨e, .head _, hb, .inl (by simpa using h.symm : e.on = j).symm⟩
      · exact ⟨e, .head _, hb, .inr h⟩
    · rw [if_neg hb] at h
      obtain ⟨e', h1, h2⟩ := ih h; exact ⟨e', .tail _ h1, h2⟩

/-- All that stands ahead of an operation whose edges are listed is listed. -/
theorem ahead_listed {ops : List Oper} {D : Nat → Prop} (hE : ∀ (i : Nat) o, ops[i]? = some o → ∀ e ∈ o.after.toList, Region.binds .any e = true → e.on < i)
    (hD : ∀ (i : Nat) o, ops[i]? = some o → D i → ∀ e ∈ o.after.toList, Region.binds .any e = true → D e.on) : ∀ (i : Nat) o, ops[i]? = some o → (∀ e ∈ o.after.toList, Region.binds .any e = true → D e.on) →
      ∀ j, ((befores [] ops).getD i 0).testBit j = true → D j := by
  intro i
  induction i using Nat.strongRecOn with
  | _ i ih =>
    intro o ho he j hj
    obtain ⟨_, _, h3⟩ := befores_spec ops []
    have hb := h3 i o ho
    simp only [List.length_nil, Nat.zero_add] at hb
    have hj' : (beforeOf ((befores [] ops).take i) o).testBit j = true := by
      simpa [List.getD_eq_getElem?_getD, hb] using hj
    obtain ⟨e, hm, hbd, hor⟩ := beforeOf_bit hj'
    rcases hor with rfl | hor
    · exact he e hm hbd
    · have hlt := hE i o ho e hm hbd
      have hil : i < ops.length := by rcases Nat.lt_or_ge i ops.length with h | h; exact h; simp [List.getElem?_eq_none h] at ho
      obtain ⟨oe, hoe⟩ : ∃ oe, ops[e.on]? = some oe := ⟨ops[e.on]'(by omega), by simp⟩
      refine ih e.on hlt oe hoe (fun e' hm' hb' => hD e.on oe hoe (he e hm hbd) e' hm' hb') j ?_
      simpa [List.getD_eq_getElem?_getD, List.getElem?_take, hlt] using hor
/-- What stands ahead comes earlier. -/
theorem ahead_lt {ops : List Oper} (hE : ∀ (i : Nat) o, ops[i]? = some o → ∀ e ∈ o.after.toList, Region.binds .any e = true → e.on < i) {i j : Nat} {o : Oper} (ho : ops[i]? = some o) (h : ((befores [] ops).getD i 0).testBit j = true) : j < i :=
  ahead_listed (D := fun x => x < i) hE (fun q oq hq hD e hm hb => by have := hE q oq hq e hm hb; omega) i o ho (fun e hm hb => hE i o ho e hm hb) j h

/-! operations and what they hang on -/

variable {P : Program} {W : Ref}

theorem lp_bnd {α : Type} (x : Option AV) (k : AV → M α) : lp x k = bnd (lp x ret) k := by cases x <;> rfl
theorem bnd_bnd {α : Type} (x : M AV) (k : AV → M α) : bnd x k = bnd (bnd x ret) k := by
  funext m
  unfold bnd
  cases x m <;> rfl
theorem lpl_bnd {α β : Type} (x : Option β) (y : β → M AV) (k : AV → M α) : (lp x fun c => bnd (y c) k) = bnd (lp x fun c => bnd (y c) ret) k := by
  cases x with
  | none => rfl
  | some c => exact bnd_bnd _ _

theorem aBuiltin_bnd {α : Type} (b : Builtin) (ats : List TypeId) (ty : TypeId) (args : List AV) (k : AV → M α) : aBuiltin P b ats ty args k = bnd (aBuiltin P b ats ty args ret) k := by
  unfold aBuiltin
  split
  all_goals (repeat' split)
  all_goals first
    | rfl
    | exact lp_bnd _ _
    | exact bnd_bnd _ _
theorem aConv_bnd {α : Type} (src dst : TypeId) (x : AV) (k : AV → M α) : aConv P src dst x k = bnd (aConv P src dst x ret) k := by
  unfold aConv
  split
  all_goals (repeat' split)
  all_goals first
    | rfl
    | exact lp_bnd _ _
    | exact bnd_bnd _ _
theorem callee_bnd {α : Type} (call : Nat → List AV → M AV) (f : AV) (args : List AV) (k : AV → M α) : callee call f args k = bnd (callee call f args ret) k := by
  unfold callee
  split
  · exact bnd_bnd _ _
  · rfl

theorem aop_bnd {α : Type} (call : Nat → List AV → M AV) (o : Oper) (t : TM) (k : AV → M α) : aop P call o t k = bnd (aop P call o t ret) k := by
  unfold aop
  split
  all_goals first
    | rfl
    | exact lp_bnd _ _
    | exact bnd_bnd _ _
    | exact aConv_bnd _ _ _ _
    | exact callee_bnd _ _ _ _
    | exact aBuiltin_bnd _ _ _ _ _
    | skip
  all_goals (repeat' split)
  all_goals first
    | rfl
    | exact lp_bnd _ _
    | exact bnd_bnd _ _
    | exact lpl_bnd _ _ _

theorem aop_det {ρ : Type} {call : Nat → List AV → M AV} {o : Oper} {t : TM} {k : AV → M ρ} {m : Mem} {r : ρ × Mem} (h : aop P call o t k m = some r) :
    ∃ v m1, k v m1 = some r ∧ ∀ {σ : Type} (k' : AV → M σ), aop P call o t k' m = k' v m1 := by
  rw [aop_bnd] at h
  obtain ⟨v, m1, h1, h2⟩ := bnd_some h
  refine ⟨v, m1, h2, fun k' => ?_⟩
  rw [aop_bnd]
  unfold bnd
  rw [h1]

/-- What neither reads nor writes memory. -/
theorem aConv_int {src dst : TypeId} {x : AV} {kd : IntKind} (hd : P.underlying dst = some (.int kd)) : ∃ y : Option AV, ∀ {α : Type} (k : AV → M α), aConv P src dst x k = lp y k := by
  unfold aConv
  rw [hd]
  cases P.underlying src with
  | none => exact ⟨none, fun _ => rfl⟩
  | some d => cases d <;> first | exact ⟨_, fun _ => rfl⟩ | exact ⟨none, fun _ => rfl⟩

theorem class0 {call : Nat → List AV → M AV} {o : Oper} (hc : opClass P o.op = 0) (t : TM) : ∃ x : Option AV, ∀ {α : Type} (k : AV → M α), aop P call o t k = lp x k := by
  unfold aop
  generalize hop : o.op = op at hc
  split
  all_goals first
    | exact ⟨some _, fun _ => rfl⟩
    | exact ⟨none, fun _ => rfl⟩
    | exact ⟨_, fun _ => rfl⟩
    | (exfalso; simp [opClass] at hc; done)
    | skip
  all_goals (repeat' split)
  all_goals first
    | exact ⟨some _, fun _ => rfl⟩
    | exact ⟨none, fun _ => rfl⟩
    | exact ⟨_, fun _ => rfl⟩
    | skip
  · rename_i src dst x
    simp only [opClass] at hc
    split at hc
    · rename_i hd
      obtain ⟨y, hy⟩ := aConv_int (P := P) (src := src) (x := t.ev x) hd
      exact ⟨y, fun k => hy k⟩
    · cases hc
  rename_i b args ats
  generalize t.evs args.toList = xs
  generalize ats.toList = ts
  cases b <;> first
    | (exfalso; simp [opClass] at hc; done)
    | skip
  all_goals
    unfold aBuiltin
    split
    all_goals first
      | exact ⟨_, fun _ => rfl⟩
      | exact ⟨none, fun _ => rfl⟩
      | (exfalso; simp_all; done)
      | (repeat' split
         all_goals first
           | exact ⟨some _, fun _ => rfl⟩
           | exact ⟨none, fun _ => rfl⟩
           | exact ⟨_, fun _ => rfl⟩)

theorem aop_congr {α : Type} (call : Nat → List AV → M AV) (o : Oper) {t t' : TM} (h : ∀ x ∈ o.op.operands, t.ev x = t'.ev x) (k : AV → M α) : aop P call o t k = aop P call o t' k := by
  have hs : ∀ xs : Array Operand, (∀ x ∈ xs, t.ev x = t'.ev x) → t.evs xs.toList = t'.evs xs.toList := fun xs hx => List.map_congr_left fun x hm => hx x (by simpa using hm)
  have hp : ∀ ps : Array (Nat × Operand), (∀ x ∈ (ps.toList.map (·.2)).toArray, t.ev x = t'.ev x) → (ps.toList.map fun (i, x) => (i, t.ev x)) = (ps.toList.map fun (i, x) => (i, t'.ev x)) := fun ps hx =>
    List.map_congr_left fun p hm => by
      obtain ⟨i, x⟩ := p
      simp only [hx x (by simpa using ⟨i, by simpa using hm⟩)]
  unfold aop
  generalize hop : o.op = op at h
  cases op <;> simp only [Op.operands] at h
  case build ty ps => simp only [hp ps h]
  case buildSlice ty n ps => simp only [hp ps h]
  case makeFunc fn first captured => simp only [hs first fun x hx => h x (by simp [hx]), hs captured fun x hx => h x (by simp [hx])]
  case call c =>
    obtain ⟨ce, args, ats⟩ := c
    cases ce with
    | value f => simp only [h f (by simp [Call.operands]), hs args fun x hx => h x (by simp [Call.operands, hx])]
    | invoke _ _ => rfl
    | builtin b => simp only [hs args fun x hx => h x (by simp [Call.operands, hx])]
  case slice ty x lo hi mx =>
    cases lo <;> cases hi <;> cases mx <;> simp_all
  case makeMap ty r => cases r <;> rfl
  case next x b => cases b <;> simp_all
  all_goals first
    | rfl
    | (simp_all; done)
    | trace_state

/-! the run in the order of the text, told op by op -/

/-- What the run in the order of the text did at an operation: frame and memory ahead (t, m) and behind (t', m'), the value, whether it was run. -/
structure Did (P : Program) (call : Nat → List AV → M AV) (ops : List Oper) (t t' : TM) (m m' : Mem) (v : AV) (x : Bool) (o : Oper) : Prop where
  put : t' = t.put o.dst v
  wants : ∀ (g : Gm) (n : Nat) (a : Act) (ops' : Array Oper), ops'.toList = ops → t.length ≤ a.tmps.size → (∀ j want d oj, o.guard = some (j, want) → ops[j]? = some oj → oj.dst = some d → VR g n (t.getD d .undef) (a.tmps.getD d Go.undef)) →
    Region.wanted o (yielded ops' a.tmps) = x
  skip : x = false → v = .tup [] ∧ m' = m
  still : opClass P o.op ≠ 2 → m' = m
  pure : x = true → opClass P o.op = 0 → ∀ (q : Mem) {σ : Type} (k : AV → M σ), aop P call o t k q = k v q
  heavy : x = true → opClass P o.op = 2 → ∀ {σ : Type} (k : AV → M σ), aop P call o t k m = k v m'

/-- A load: from where. -/
def Loads (P : Program) (t : TM) (o : Oper) (sh : Option Nat) (a : AV) : Prop := ∃ ty x, o.op = .load ty x ∧ shape? P ty = some sh ∧ t.ev x = a

theorem same_some {ρ : Type} {sh : Option Nat} {a v : AV} {m' : Mem} {k : M ρ} {m : Mem} {r : ρ × Mem} (h : same sh a v m' k m = some r) : load? sh a m' = some v ∧ k m = some r := by
  unfold same at h
  generalize hl : load? sh a m' = x at h
  cases x with
  | none => cases h
  | some u =>
    simp only at h
    generalize he : AV.eqb u v = b at h
    cases b with
    | false => cases h
    | true => exact ⟨by rw [AV.eq_of_eqb he], h⟩
theorem sameIn_some {ρ : Type} {bf : Nat} {sh : Option Nat} {a v : AV} {k : M ρ} {m : Mem} {r : ρ × Mem} : ∀ {ms : List (Nat × Mem)}, sameIn bf sh a v ms k m = some r →
    k m = some r ∧ ∀ h mh, (h, mh) ∈ ms → bf.testBit h = false → load? sh a mh = some v
  | [], h => ⟨h, fun _ _ hm => by cases hm⟩
  | (q, mq) :: ms, h => by
    unfold sameIn at h
    split at h
    · rename_i hb
      obtain ⟨h1, h2⟩ := sameIn_some h
      refine ⟨h1, fun p mp hm hf => ?_⟩
      cases hm with
      | head => rw [hb] at hf; cases hf
      | tail _ hm => exact h2 p mp hm hf
    · obtain ⟨hs, h⟩ := same_some h
      obtain ⟨h1, h2⟩ := sameIn_some h
      refine ⟨h1, fun p mp hm hf => ?_⟩
      cases hm with
      | head => exact hs
      | tail _ hm => exact h2 p mp hm hf
theorem sameNow_some {ρ : Type} {bf : Nat} {m' : Mem} {k : M ρ} {m : Mem} {r : ρ × Mem} : ∀ {ls : List (Nat × Option Nat × AV × AV)}, sameNow bf m' ls k m = some r →
    k m = some r ∧ ∀ l sh a v, (l, sh, a, v) ∈ ls → bf.testBit l = false → load? sh a m' = some v
  | [], h => ⟨h, fun _ _ _ _ hm => by cases hm⟩
  | (q, sq, aq, vq) :: ls, h => by
    unfold sameNow at h
    split at h
    · rename_i hb
      obtain ⟨h1, h2⟩ := sameNow_some h
      refine ⟨h1, fun l sh a v hm hf => ?_⟩
      cases hm with
      | head => rw [hb] at hf; cases hf
      | tail _ hm => exact h2 l sh a v hm hf
    · obtain ⟨hs, h⟩ := same_some h
      obtain ⟨h1, h2⟩ := sameNow_some h
      refine ⟨h1, fun l sh a v hm hf => ?_⟩
      cases hm with
      | head => exact hs
      | tail _ hm => exact h2 l sh a v hm hf

theorem guarded_real {ρ : Type} {ops : Array Oper} {j : Nat} {sk want : Bool} {yes no : TM → M ρ} {t : TM} {m : Mem} {r : ρ × Mem} (h : guarded (guardOf ops.toList t j) sk want yes no t m = some r) :
    ∃ oj d, ops.toList[j]? = some oj ∧ oj.dst = some d ∧ ((yes t m = some r ∧ t.getD d .undef = .bool want) ∨ (no t m = some r ∧ (t.getD d .undef = .bool !want ∨ t.getD d .undef = .tup []))) := by
  unfold guardOf at h
  cases ho : ops.toList[j]? with
  | none => rw [ho] at h; simp [guarded, fail] at h
  | some o =>
    rw [ho] at h
    cases hd : o.dst with
    | none => simp [hd, guarded, fail] at h
    | some d =>
      simp only [hd] at h
      refine ⟨o, d, rfl, hd, ?_⟩
      generalize hv' : t.getD d .undef = v at h
      cases sk with
      | true =>
        simp only [guarded, if_true] at h
        split at h
        · exact .inr ⟨h, .inr rfl⟩
        · cases h
      | false =>
        have h' : (if want then mc v (yes (t.set d (.bool true))) (no (t.set d (.bool false))) else mc v (no (t.set d (.bool true))) (yes (t.set d (.bool false)))) m = some r := by
          simpa only [guarded, Bool.false_eq_true, if_false] using h
        have main : ∀ b, v = .bool b → t.set d (.bool b) = t := fun b hb => TM.set_self (by rw [hv', hb]) (by simp)
        cases want with
        | true =>
          obtain ⟨b, rfl, hk⟩ := mc_some (by simpa using h')
          cases b with
          | true => left; rw [main true rfl] at hk; exact ⟨by simpa using hk, rfl⟩
          | false => right; rw [main false rfl] at hk; exact ⟨by simpa using hk, .inl rfl⟩
        | false =>
          obtain ⟨b, rfl, hk⟩ := mc_some (by simpa using h')
          cases b with
          | true => right; rw [main true rfl] at hk; exact ⟨by simpa using hk, .inl rfl⟩
          | false => left; rw [main false rfl] at hk; exact ⟨by simpa using hk, rfl⟩

theorem yielded_of {ops : Array Oper} {j d : Nat} {oj : Oper} {g : Gm} {n : Nat} {t : TM} {a : Act} (ho : ops.toList[j]? = some oj) (hd : oj.dst = some d) (hv : VR g n (t.getD d .undef) (a.tmps.getD d Go.undef)) (hl : t.length ≤ a.tmps.size) :
    (∀ b, t.getD d .undef = .bool b → yielded ops a.tmps j = some b) ∧ (t.getD d .undef = .tup [] → yielded ops a.tmps j = none) := by
  have ho' : ops[j]? = some oj := by simpa using ho
  constructor
  · intro b hb
    rw [hb] at hv
    have hl : d < a.tmps.size := by
      rcases Nat.lt_or_ge d t.length with h1 | h1
      · exact Nat.lt_of_lt_of_le h1 hl
      · simp [List.getD_eq_getElem?_getD, List.getElem?_eq_none h1] at hb
    generalize hq : a.tmps.getD d Go.undef = x at hv
    cases hv
    simp [Array.getD_eq_getD_getElem?, hl] at hq
    simp [yielded, ho', hd, hl, hq]
  · intro hb
    rw [hb] at hv
    generalize hq : a.tmps.getD d Go.undef = x at hv
    cases hv with
    | tup _ xs hxs =>
      cases hxs
      simp only [yielded, ho', hd, Option.bind_some]
      cases hx : a.tmps[d]? with
      | none => rfl
      | some y =>
        simp [Array.getD_eq_getD_getElem?, hx] at hq
        subst hq; rfl

theorem class_le (op : Op) : opClass P op = 0 ∨ opClass P op = 1 ∨ opClass P op = 2 := by
  unfold opClass
  split <;> (try split) <;> simp

theorem class1 {op : Op} (h : opClass P op = 1) : ∃ ty x, op = .load ty x := by
  unfold opClass at h
  split at h <;> (try split at h) <;> first | exact ⟨_, _, rfl⟩ | (exact absurd h (by decide))

/-- The whole run from operation i on. -/
structure Trace (P : Program) (call : Nat → List AV → M AV) (all : List Oper) (bf : List Nat) (i : Nat) (ms : List (Nat × Mem)) (ls : List (Nat × Option Nat × AV × AV)) (T : Nat → TM) (Mm : Nat → Mem) (V : Nat → AV) (X : Nat → Bool) : Prop where
  did : ∀ q o, i ≤ q → all[q]? = some o → Did P call all (T q) (T (q + 1)) (Mm q) (Mm (q + 1)) (V q) (X q) o
  loads : ∀ q o, i ≤ q → all[q]? = some o → X q = true → opClass P o.op = 1 → ∃ sh a, Loads P (T q) o sh a ∧ load? sh a (Mm q) = some (V q) ∧
    (∀ h mh, (h, mh) ∈ ms → (bf.getD q 0).testBit h = false → load? sh a mh = some (V q)) ∧
    (∀ h oh, i ≤ h → h < q → all[h]? = some oh → opClass P oh.op = 2 → X h = true → (bf.getD q 0).testBit h = false → load? sh a (Mm h) = some (V q)) ∧
    (∀ h oh, q < h → all[h]? = some oh → opClass P oh.op = 2 → X h = true → (bf.getD h 0).testBit q = false → load? sh a (Mm (h + 1)) = some (V q))
  earlier : ∀ l sh a v, (l, sh, a, v) ∈ ls → ∀ h oh, i ≤ h → all[h]? = some oh → opClass P oh.op = 2 → X h = true → (bf.getD h 0).testBit l = false → load? sh a (Mm (h + 1)) = some v

/-- One operation more, ahead. -/
theorem Trace.cons {call : Nat → List AV → M AV} {all : List Oper} {bf : List Nat} {i : Nat} {ms ms' : List (Nat × Mem)} {ls ls' : List (Nat × Option Nat × AV × AV)} {T : Nat → TM} {Mm : Nat → Mem} {V : Nat → AV} {X : Nat → Bool}
    {t : TM} {m : Mem} {v : AV} {x : Bool} {o : Oper} (h : Trace P call all bf (i + 1) ms' ls' T Mm V X) (ho : all[i]? = some o) (hd : Did P call all t (T (i + 1)) m (Mm (i + 1)) v x o)
    (hms : ∀ p, p ∈ ms → p ∈ ms') (hls : ∀ p, p ∈ ls → p ∈ ls') (hheavy : opClass P o.op = 2 → x = true → (i, m) ∈ ms' ∧ ∀ l sh a u, (l, sh, a, u) ∈ ls → (bf.getD i 0).testBit l = false → load? sh a (Mm (i + 1)) = some u)
    (hload : opClass P o.op = 1 → x = true → ∃ sh a, Loads P t o sh a ∧ load? sh a m = some v ∧ (i, sh, a, v) ∈ ls' ∧ ∀ h mh, (h, mh) ∈ ms → (bf.getD i 0).testBit h = false → load? sh a mh = some v) :
    Trace P call all bf i ms ls (fun q => if q = i then t else T q) (fun q => if q = i then m else Mm q) (fun q => if q = i then v else V q) (fun q => if q = i then x else X q) where
  did := fun q oq hq hoq => by
    by_cases e : q = i
    · subst e
      rw [ho] at hoq; cases hoq
      simpa using hd
    · have := h.did q oq (by omega) hoq
      simpa [e, show ¬ q + 1 = i by omega] using this
  loads := fun q oq hq hoq hx hc => by
    by_cases e : q = i
    · subst e
      rw [ho] at hoq; cases hoq
      simp only [if_true] at hx
      obtain ⟨sh, a, h1, h2, h3, h4⟩ := hload hc hx
      refine ⟨sh, a, by simpa using h1, by simpa using h2, by simpa using h4, fun p op hp hp' => by omega, fun p op hp hop hcp hxp hbp => ?_⟩
      simp only [show ¬ p = q by omega, if_false] at hxp
      have := h.earlier q sh a v h3 p op (by omega) hop hcp hxp hbp
      simpa [show ¬ p + 1 = q by omega] using this
    · simp only [e, if_false] at hx
      obtain ⟨sh, a, h1, h2, h3, h4, h5⟩ := h.loads q oq (by omega) hoq hx hc
      refine ⟨sh, a, by simpa [e] using h1, by simpa [e] using h2, fun p mp hp hb => by simpa [e] using h3 p mp (hms _ hp) hb, fun p op hp hp' hop hcp hxp hbp => ?_, fun p op hp hop hcp hxp hbp => ?_⟩
      · by_cases ep : p = i
        · subst ep
          rw [ho] at hop; cases hop
          simp only [if_true] at hxp
          have := h3 p m (hheavy hcp hxp).1 hbp
          simpa [e] using this
        · simp only [ep, if_false] at hxp
          have := h4 p op (by omega) hp' hop hcp hxp hbp
          simpa [e, ep] using this
      · simp only [show ¬ p = i by omega, if_false] at hxp
        have := h5 p op hp hop hcp hxp hbp
        simpa [e, show ¬ p + 1 = i by omega] using this
  earlier := fun l sh a u hl p op hp hop hcp hxp hbp => by
    by_cases ep : p = i
    · subst ep
      rw [ho] at hop; cases hop
      simp only [if_true] at hxp
      have := (hheavy hcp hxp).2 l sh a u hl hbp
      simpa [show ¬ p + 1 = p by omega] using this
    · simp only [ep, if_false] at hxp
      have := h.earlier l sh a u (hls _ hl) p op (by omega) hop hcp hxp hbp
      simpa [show ¬ p + 1 = i by omega] using this

theorem wants_none {t : TM} {o : Oper} {ops : List Oper} (hg : o.guard = none) : ∀ (g : Gm) (n : Nat) (a : Act) (ops' : Array Oper), ops'.toList = ops → t.length ≤ a.tmps.size → (∀ j want d oj, o.guard = some (j, want) → ops[j]? = some oj → oj.dst = some d → VR g n (t.getD d .undef) (a.tmps.getD d Go.undef)) →
    Region.wanted o (yielded ops' a.tmps) = true := fun _ _ _ _ _ _ _ => by simp [Region.wanted, hg]
theorem wants_yes {t : TM} {o : Oper} {ops : List Oper} {j d : Nat} {want : Bool} {oj : Oper} (hg : o.guard = some (j, want)) (ho : ops[j]? = some oj) (hd : oj.dst = some d) (hv : t.getD d .undef = .bool want) :
    ∀ (g : Gm) (n : Nat) (a : Act) (ops' : Array Oper), ops'.toList = ops → t.length ≤ a.tmps.size → (∀ j want d oj, o.guard = some (j, want) → ops[j]? = some oj → oj.dst = some d → VR g n (t.getD d .undef) (a.tmps.getD d Go.undef)) →
    Region.wanted o (yielded ops' a.tmps) = true := fun g n a ops' he hl h => by
  have := (yielded_of (ops := ops') (by rw [he]; exact ho) hd (h j want d oj hg ho hd) hl).1 _ hv
  simp [Region.wanted, hg, this]
theorem wants_no {t : TM} {o : Oper} {ops : List Oper} {j d : Nat} {want : Bool} {oj : Oper} (hg : o.guard = some (j, want)) (ho : ops[j]? = some oj) (hd : oj.dst = some d) (hv : t.getD d .undef = .bool !want ∨ t.getD d .undef = .tup []) :
    ∀ (g : Gm) (n : Nat) (a : Act) (ops' : Array Oper), ops'.toList = ops → t.length ≤ a.tmps.size → (∀ j want d oj, o.guard = some (j, want) → ops[j]? = some oj → oj.dst = some d → VR g n (t.getD d .undef) (a.tmps.getD d Go.undef)) →
    Region.wanted o (yielded ops' a.tmps) = false := fun g n a ops' he hl h => by
  have hy := yielded_of (ops := ops') (by rw [he]; exact ho) hd (h j want d oj hg ho hd) hl
  rcases hv with hv | hv
  · have := hy.1 _ hv
    simp [Region.wanted, hg, this]
  · have := hy.2 hv
    simp [Region.wanted, hg, this]

theorem runDraw_trace {ρ : Type} {call : Nat → List AV → M AV} {all : List Oper} {bf : List Nat} {K : TM → M ρ} {r : ρ × Mem} : ∀ (os : List Oper) (sk i : Nat) (t : TM) (m : Mem) (ms : List (Nat × Mem)) (ls : List (Nat × Option Nat × AV × AV)),
    all.drop i = os → runDraw P call all bf sk i os ms ls K t m = some r → ∃ T Mm V X, T i = t ∧ Mm i = m ∧ K (T (i + os.length)) (Mm (i + os.length)) = some r ∧ Trace P call all bf i ms ls T Mm V X
  | [], sk, i, t, m, ms, ls, hd, h => by
    have hnone : ∀ q, i ≤ q → all[q]? = none := fun q hq => by
      have := congrArg (fun l => l[q - i]?) hd
      simpa [show i + (q - i) = q by omega] using this
    refine ⟨fun _ => t, fun _ => m, fun _ => .undef, fun _ => false, rfl, rfl, h, ?_, ?_, ?_⟩
    · intro q o hq ho; rw [hnone q hq] at ho; cases ho
    · intro q o hq ho; rw [hnone q hq] at ho; cases ho
    · intro l sh a v _ q o hq ho; rw [hnone q hq] at ho; cases ho
  | o :: os, sk, i, t, m, ms, ls, hd, h => by
    have ho : all[i]? = some o := by
      have := congrArg (fun l => l[0]?) hd
      simpa using this
    have hd' : all.drop (i + 1) = os := by rw [← List.drop_drop, hd]; rfl
    have hgo : ∀ (hw : ∀ (g : Gm) (n : Nat) (a : Act) (ops' : Array Oper), ops'.toList = all → t.length ≤ a.tmps.size → (∀ j want d oj, o.guard = some (j, want) → all[j]? = some oj → oj.dst = some d → VR g n (t.getD d .undef) (a.tmps.getD d Go.undef)) → Region.wanted o (yielded ops' a.tmps) = true),
        (match opClass P o.op with
        | 0 => aop P call o t fun v => runDraw P call all bf sk (i + 1) os ms ls K (t.put o.dst v)
        | 1 =>
          match o.op with
          | .load ty a =>
            (match shape? P ty with
            | some sh => bnd (load sh (t.ev a)) fun v => sameIn (bf.getD i 0) sh (t.ev a) v ms (runDraw P call all bf sk (i + 1) os ms ((i, sh, t.ev a, v) :: ls) K (t.put o.dst v))
            | none => fail)
          | _ => fail
        | _ => snap fun m => aop P call o t fun v => snap fun m' => sameNow (bf.getD i 0) m' ls (runDraw P call all bf sk (i + 1) os ((i, m) :: ms) ls K (t.put o.dst v))) m = some r →
        ∃ T Mm V X, T i = t ∧ Mm i = m ∧ K (T (i + (o :: os).length)) (Mm (i + (o :: os).length)) = some r ∧ Trace P call all bf i ms ls T Mm V X := by
      intro hw h
      have fin : ∀ {ms' : List (Nat × Mem)} {ls' : List (Nat × Option Nat × AV × AV)} {T : Nat → TM} {Mm : Nat → Mem} {V : Nat → AV} {X : Nat → Bool} {v : AV} {m' : Mem}, T (i + 1) = t.put o.dst v → Mm (i + 1) = m' → K (T (i + 1 + os.length)) (Mm (i + 1 + os.length)) = some r → Trace P call all bf i ms ls (fun q => if q = i then t else T q) (fun q => if q = i then m else Mm q) (fun q => if q = i then v else V q) (fun q => if q = i then true else X q) →
          ∃ T Mm V X, T i = t ∧ Mm i = m ∧ K (T (i + (o :: os).length)) (Mm (i + (o :: os).length)) = some r ∧ Trace P call all bf i ms ls T Mm V X := by
        intro ms' ls' T Mm V X v m' h1 h2 h3 h4
        refine ⟨_, _, _, _, ?_, ?_, ?_, h4⟩
        · simp
        · simp
        · have : ¬ i + (o :: os).length = i := by simp
          simp only [this, if_false, List.length_cons]
          rw [show i + (os.length + 1) = i + 1 + os.length by omega]
          simpa [show ¬ i + 1 + os.length = i by omega] using h3
      rcases class_le o.op with hc | hc | hc
      · rw [hc] at h
        obtain ⟨v, m1, hk, hdet⟩ := aop_det h
        obtain ⟨x, hx⟩ := class0 (P := P) (call := call) hc t
        obtain ⟨v', rfl⟩ : ∃ v', x = some v' := by
          cases x with
          | some v' => exact ⟨v', rfl⟩
          | none => rw [hx] at h; cases h
        have e1 : (v, m1) = (v', m) := by
          have h1 := hdet (σ := AV) ret
          rw [hx] at h1
          simpa [lp, ret] using h1.symm
        cases e1
        obtain ⟨T, Mm, V, X, hT, hM, hK, hTr⟩ := runDraw_trace os _ (i + 1) _ _ ms ls hd' hk
        refine fin (ms' := ms) (ls' := ls) hT hM hK (hTr.cons ho (v := v) ⟨hT, hw, fun e => (by cases e), fun _ => hM, fun _ _ q σ k => by rw [hx]; rfl, fun _ e => by omega⟩ (fun _ h => h) (fun _ h => h) (fun e => by omega) (fun e => by omega))
      · rw [hc] at h
        obtain ⟨ty, x, hop⟩ := class1 hc
        simp only [hop] at h
        generalize hsh : shape? P ty = osh at h
        cases osh with
        | none => cases h
        | some sh =>
          obtain ⟨v, m1, hv, hk⟩ := bnd_some h
          unfold load at hv
          obtain ⟨u, hu, hq⟩ := Option.map_eq_some_iff.1 hv
          cases hq
          obtain ⟨hk, hin⟩ := sameIn_some hk
          obtain ⟨T, Mm, V, X, hT, hM, hK, hTr⟩ := runDraw_trace os _ (i + 1) _ _ ms _ hd' hk
          refine fin (ms' := ms) (ls' := ls) hT hM hK (hTr.cons ho (v := v) ⟨hT, hw, fun e => (by cases e), fun _ => hM, fun _ e => by omega, fun _ e => by omega⟩ (fun _ h => h) (fun _ h => .tail _ h) (fun e => by omega)
            (fun _ _ => ⟨sh, t.ev x, ⟨ty, x, hop, hsh, rfl⟩, hu, .head _, hin⟩))
      · rw [hc] at h
        have h' : (aop P call o t fun v => snap fun m' => sameNow (bf.getD i 0) m' ls (runDraw P call all bf sk (i + 1) os ((i, m) :: ms) ls K (t.put o.dst v))) m = some r := h
        obtain ⟨v, m1, hk, hdet⟩ := aop_det h'
        have hk' : sameNow (bf.getD i 0) m1 ls (runDraw P call all bf sk (i + 1) os ((i, m) :: ms) ls K (t.put o.dst v)) m1 = some r := hk
        obtain ⟨hk, hnow⟩ := sameNow_some hk'
        obtain ⟨T, Mm, V, X, hT, hM, hK, hTr⟩ := runDraw_trace os _ (i + 1) _ _ _ ls hd' hk
        refine fin (ms' := (i, m) :: ms) (ls' := ls) hT hM hK (hTr.cons ho (v := v) ⟨hT, hw, fun e => (by cases e), fun e => absurd hc e, fun _ e => by omega, fun _ _ σ k => by rw [hM]; exact hdet k⟩ (fun _ h => .tail _ h) (fun _ h => h)
          (fun _ _ => ⟨.head _, fun l sh a u hl hb => by rw [hM]; exact hnow l sh a u hl hb⟩) (fun e => by omega))
    unfold runDraw at h
    cases hg : o.guard with
    | none =>
      rw [hg] at h
      exact hgo (wants_none hg) h
    | some jw =>
      obtain ⟨j, want⟩ := jw
      rw [hg] at h
      obtain ⟨oj, d, hoj, hdj, hor⟩ := guarded_real (ops := all.toArray) h
      have hoj : all[j]? = some oj := by simpa using hoj
      rcases hor with ⟨h, hv⟩ | ⟨h, hv⟩
      · exact hgo (wants_yes hg hoj hdj hv) h
      · obtain ⟨T, Mm, V, X, hT, hM, hK, hTr⟩ := runDraw_trace os _ (i + 1) _ _ _ ls hd' h
        refine ⟨_, _, _, _, ?_, ?_, ?_, hTr.cons ho (t := t) (m := m) (v := .tup []) (x := false) ⟨hT, wants_no hg hoj hdj hv, fun _ => ⟨rfl, hM⟩, fun _ => hM, fun e => (by cases e), fun e => (by cases e)⟩ (fun _ h => h) (fun _ h => h) (fun _ e => by cases e) (fun _ e => by cases e)⟩
        · simp
        · simp
        · have : ¬ i + (o :: os).length = i := by simp
          simp only [this, if_false, List.length_cons]
          rw [show i + (os.length + 1) = i + 1 + os.length by omega]
          simpa [show ¬ i + 1 + os.length = i by omega] using hK

end Go.Proofs.YtooogfnmhfocjaaGreatDoor.Spl
