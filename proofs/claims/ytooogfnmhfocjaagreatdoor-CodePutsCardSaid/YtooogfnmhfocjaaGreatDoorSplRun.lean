/- The abstract machine, 13: how a law is shown by it: closed calls, the first memory, what holds from some fuel on. -/
import Derived.Test.YtooogfnmhfocjaaGreatDoorSplCall
namespace Go.Proofs.YtooogfnmhfocjaaGreatDoor.Spl
open Go Go.RowKit
set_option linter.unusedVariables false
set_option linter.unusedSimpArgs false

/-! what is told of further functions -/

def Ext.plus (ext : Ext) (f : Nat) (k : List AV → M AV) : Ext := fun i => if i = f then some k else ext i
def Ext.none : Ext := fun _ => Option.none

theorem ExtOk.none (P : Program) (W : Ref) : ExtOk P W Ext.none := fun f k h => by cases h

/-- What is told of one function. -/
def FunOk (P : Program) (W : Ref) (f : Nat) (k : List AV → M AV) : Prop :=
  ∀ args v m m1, k args m = some (v, m1) → ∀ g w xs, Sim W g m w → VRs g m.next args xs →
    ((∃ fn, P.funcs[f]? = some fn ∧ fn.body.isSome = true) ∧ Calls P f xs.toArray w fun e w' => ∃ z g', e = .returned z ∧ VR g' m1.next v z ∧ Sim W g' m1 w' ∧ Ext' g m.next g' m1.next) ∨
    ∃ z g' w', (callFunc f xs.toArray).run P w = .ok (.value z) w' ∧ VR g' m1.next v z ∧ Sim W g' m1 w' ∧ Ext' g m.next g' m1.next

theorem ExtOk.plus {P : Program} {W : Ref} {ext : Ext} (h : ExtOk P W ext) {f : Nat} {k : List AV → M AV} (hk : FunOk P W f k) : ExtOk P W (ext.plus f k) := by
  intro i k' he
  unfold Ext.plus at he
  split at he
  · rename_i e
    subst e; cases he
    exact hk
  · exact h i k' he

/-- A function that hands back its argument (internal/abi.NoEscape). -/
def same1 : List AV → M AV := fun args m =>
  match args with
  | [x] => some (x, m)
  | _ => none
theorem same1_ok {P : Program} {W : Ref} {f : Nat} (h : ∀ (x : Value) (w : World), (callFunc f #[x]).run P w = .ok (.value x) w) : FunOk P W f same1 := by
  intro args v m m1 he g w xs s hx
  cases hx with
  | nil => cases he
  | cons a x _ _ ha ht =>
    cases ht with
    | nil =>
      cases he
      exact .inr ⟨x, g, w, h x w, ha, s, Ext'.refl _ _⟩
    | cons _ _ _ _ _ _ => cases he

def Mem.empty : Mem := ⟨0, 0, fun _ => .dead⟩
def comesTrue : Option (AV × Mem) → Bool
  | some (.bool true, _) => true
  | _ => false
theorem comesTrue_some {x : Option (AV × Mem)} (h : comesTrue x = true) : ∃ m, x = some (.bool true, m) := by
  unfold comesTrue at h
  split at h
  · exact ⟨_, rfl⟩
  · cases h

/-- A world, all of whose blocks are kept. -/
def Ref.all (w : World) : Ref := ⟨w, fun k => k < w.heap.size, fun _ h => h⟩

theorem sim_empty (w : World) : Sim (Ref.all w) ⟨0, fun i => i, fun _ => 0⟩ Mem.empty w where
  gbase := rfl
  mbase := Nat.zero_le _
  le := Nat.le_refl _
  below := ⟨rfl, rfl, rfl, Nat.le_refl _, fun _ _ => rfl⟩
  old := fun i h => absurd h (Nat.not_lt_zero _)
  own := fun i _ h => absurd h (Nat.not_lt_zero _)
  live := fun i _ _ _ _ h => absurd h (Nat.not_lt_zero _)
  raw := fun i _ _ h => absurd h (Nat.not_lt_zero _)
  inj := fun i j _ h => absurd h (Nat.not_lt_zero _)

/-- A function without arguments that comes to true in an empty memory comes to true in every one. -/
def trueAlways : List AV → M AV := fun args m =>
  match args with
  | [] => some (.bool true, m)
  | _ => none
theorem closed_ok {P : Program} {ext : Ext} (hm : P.follows .mixedOrders = true) (hn : ∀ (f : Nat) (fn : Func), P.funcs[f]? = some fn → fn.name ≠ "runtime.NumGoroutine") (hext : ∀ W, ExtOk P W ext) {n f : Nat}
    (h : comesTrue (fcall P ext n f [] Mem.empty) = true) (W : Ref) : FunOk P W f trueAlways := by
  obtain ⟨m0, h0⟩ := comesTrue_some h
  intro args v m m1 he g w xs s hx
  cases hx with
  | cons _ _ _ _ _ _ => cases he
  | nil =>
    cases he
    have hback : ∀ z g' w', VR g' m0.next (.bool true) z → Sim (Ref.all w) g' m0 w' → VR g m.next (.bool true) z ∧ Sim W g m w' ∧ Ext' g m.next g m.next := by
      intro z g' w' hz hs
      refine ⟨by cases hz; exact .bool true, s.heap ?_ hs.below.size (fun b hb => hs.below.block b hb), Ext'.refl _ _⟩
      exact s.below.trans ⟨hs.below.os, hs.below.tape, hs.below.output, hs.below.size, fun k hk => hs.below.block k (s.below.lt hk)⟩
    rcases fcall_ok hm hn hext n (Ref.all w) f [] (.bool true) Mem.empty m0 h0 _ w [] (sim_empty w) .nil with ⟨⟨fn, h1, h2, _⟩, h3⟩ | ⟨z, g', w', h1, h2, h3, h4⟩
    · exact .inl ⟨⟨fn, h1, h2⟩, h3.mono fun e w' ⟨z, g', he, hz, hs, _⟩ => ⟨z, g, he, hback z g' w' hz hs⟩⟩
    · exact .inr ⟨z, g, w', h1, hback z g' w' h2 h3⟩

/-! the first memory of a law -/

/-- A value of one cell. -/
def conv1 (n : Nat) : Value → AV
  | .bool b => .bool b
  | .int k x => .int k x
  | .string s => .str s
  | .pointer none => .nilptr
  | .pointer (some ⟨b, o, none⟩) => if b < n then .ptr b o else .undef
  | .slice none 0 0 => .nilslice
  | .slice (some _) 0 _ => .dang
  | .slice (some ⟨b, o, none⟩) len cap => if b < n ∧ len ≤ cap then .slice b o len 0 else .undef
  | .nilFunc => .nilfunc
  | .nilIface => .nilface
  | _ => .undef
def conv (n : Nat) : Value → AV
  | .agg cs => .agg (cs.toList.map (conv1 n))
  | v => conv1 n v

def mirror (W : World) : Mem := ⟨W.heap.size, W.heap.size, fun i => match W.heap[i]? with | some (.cells c t _) => .cells t 0 (c.toList.map (conv1 W.heap.size)) | _ => .dead⟩
def mirrorG (W : World) : Gm := ⟨W.heap.size, fun i => i, fun _ => 0⟩

theorem conv1_rel (W : World) (v : Value) : VR (mirrorG W) W.heap.size (conv1 W.heap.size v) v := by
  unfold conv1
  split
  · exact .bool _
  · exact .int _ _
  · exact .str _
  · exact .nilptr
  · rename_i b o
    split
    · rename_i h; exact .ptr (g := mirrorG W) b o h
    · exact .undef _
  · exact .nilslice
  · exact .dang _ _
  · rename_i b o len cap _
    split
    · rename_i h; exact .slice (g := mirrorG W) b o len 0 cap h.1 h.2 (fun hb => absurd hb (Nat.not_le.2 h.1))
    · exact .undef _
  · exact .nilfunc
  · exact .nilface
  · exact .undef _
theorem conv1s_rel (W : World) : ∀ l : List Value, VRs (mirrorG W) W.heap.size (l.map (conv1 W.heap.size)) l
  | [] => .nil
  | v :: l => .cons _ _ _ _ (conv1_rel W v) (conv1s_rel W l)
theorem conv_rel (W : World) (v : Value) : VR (mirrorG W) W.heap.size (conv W.heap.size v) v := by
  unfold conv
  split
  · rename_i cs
    have := VR.agg _ _ (conv1s_rel W cs.toList)
    simpa using this
  · exact conv1_rel W v
theorem convs_rel (W : World) : ∀ l : List Value, VRs (mirrorG W) W.heap.size (l.map (conv W.heap.size)) l
  | [] => .nil
  | v :: l => .cons _ _ _ _ (conv_rel W v) (convs_rel W l)

theorem sim_mirror (W : World) : Sim (Ref.all W) (mirrorG W) (mirror W) W where
  gbase := rfl
  mbase := Nat.le_refl _
  le := Nat.le_refl _
  below := ⟨rfl, rfl, rfl, Nat.le_refl _, fun _ _ => rfl⟩
  old := fun i h => ⟨rfl, fun ty fz cs hg => ⟨h, by
    simp only [mirror] at hg
    split at hg
    · rename_i c t fr he
      cases hg
      refine ⟨c, _, _, he, by simp, ?_⟩
      have : c.toList.take (c.toList.map (conv1 W.heap.size)).length = c.toList := by rw [List.length_map, List.take_length]
      rw [this]
      exact conv1s_rel W c.toList
    · cases hg⟩⟩
  own := fun i h1 h2 => absurd h2 (Nat.not_lt.2 h1)
  live := fun i _ _ _ h1 h2 => absurd h2 (Nat.not_lt.2 h1)
  raw := fun i _ h1 h2 => absurd h2 (Nat.not_lt.2 h1)
  inj := fun i j h1 h2 => absurd h2 (Nat.not_lt.2 h1)

/-- A law that comes to true in a memory that stands for the world comes to true. -/
theorem law_calls_at {P : Program} {ext : Ext} (hm : P.follows .mixedOrders = true) (hn : ∀ (f : Nat) (fn : Func), P.funcs[f]? = some fn → fn.name ≠ "runtime.NumGoroutine") (hext : ∀ W, ExtOk P W ext) {f : Nat} {fn : Func} (hf : P.funcs[f]? = some fn) (hb : fn.body.isSome = true)
    {W : World} {args : Array Value} {g : Gm} {m : Mem} {avs : List AV} (hs : Sim (Ref.all W) g m W) (hargs : VRs g m.next avs args.toList) {n : Nat} (h : comesTrue (fcall P ext n f avs m) = true) :
    Calls P f args W fun e w' => e = .returned (.bool true) ∧ Below W.heap.size W w' := by
  obtain ⟨m', h⟩ := comesTrue_some h
  rcases fcall_ok hm hn hext n (Ref.all W) f _ _ _ _ h g W args.toList hs hargs with ⟨_, h3⟩ | ⟨z, g', w', h1, _⟩
  · simp only [Array.toArray_toList] at h3
    refine h3.mono fun e w' ⟨z, g', he, hz, hs, _⟩ => ⟨?_, hs.below.os, hs.below.tape, hs.below.output, hs.below.size, hs.below.block⟩
    cases hz
    exact he
  · exfalso
    have hb' : fn.body.isNone = false := by cases hbb : fn.body <;> simp_all
    unfold callFunc at h1
    simp only [Sem.run_bind, run_program, Result.andThen_ok, hf] at h1
    rw [if_neg (by simpa using hn f fn hf), if_neg (by simp [hb'])] at h1
    cases h1
/-- .. in the first memory. -/
theorem law_calls {P : Program} {ext : Ext} (hm : P.follows .mixedOrders = true) (hn : ∀ (f : Nat) (fn : Func), P.funcs[f]? = some fn → fn.name ≠ "runtime.NumGoroutine") (hext : ∀ W, ExtOk P W ext) {f : Nat} {fn : Func} (hf : P.funcs[f]? = some fn) (hb : fn.body.isSome = true)
    {W : World} {args : Array Value} (h : ∃ n, comesTrue (fcall P ext n f (args.toList.map (conv W.heap.size)) (mirror W)) = true) :
    Calls P f args W fun e w' => e = .returned (.bool true) ∧ Below W.heap.size W w' := by
  obtain ⟨n, h⟩ := h
  exact law_calls_at hm hn hext hf hb (sim_mirror W) (convs_rel W args.toList) h
/-- .. in an empty memory, where no argument has memory. -/
theorem law_closed {P : Program} {ext : Ext} (hm : P.follows .mixedOrders = true) (hn : ∀ (f : Nat) (fn : Func), P.funcs[f]? = some fn → fn.name ≠ "runtime.NumGoroutine") (hext : ∀ W, ExtOk P W ext) {f : Nat} {fn : Func} (hf : P.funcs[f]? = some fn) (hb : fn.body.isSome = true)
    {W : World} {args : Array Value} {avs : List AV} (hargs : ∀ g n, VRs g n avs args.toList) {n : Nat} (h : comesTrue (fcall P ext n f avs Mem.empty) = true) :
    Calls P f args W fun e w' => e = .returned (.bool true) ∧ Below W.heap.size W w' :=
  law_calls_at hm hn hext hf hb (sim_empty W) (hargs _ _) h

/-! what holds from some fuel on -/

/-- From some fuel on x comes to one value and memory, and Q holds of them. -/
def Ok {α : Type} (x : Nat → M α) (m : Mem) (Q : α → Mem → Prop) : Prop := ∃ r m', Q r m' ∧ ∃ N, ∀ n, N ≤ n → x n m = some (r, m')

theorem Ok.mono {α : Type} {x : Nat → M α} {m : Mem} {Q Q' : α → Mem → Prop} (h : Ok x m Q) (hq : ∀ r m', Q r m' → Q' r m') : Ok x m Q' := by
  obtain ⟨r, m', h1, h2⟩ := h
  exact ⟨r, m', hq _ _ h1, h2⟩
theorem Ok.ret {α : Type} {v : α} {m : Mem} {Q : α → Mem → Prop} (h : Q v m) : Ok (fun _ => Go.Proofs.YtooogfnmhfocjaaGreatDoor.Spl.ret v) m Q := ⟨v, m, h, 0, fun _ _ => rfl⟩
theorem ok_ret {α : Type} {v : α} {m : Mem} {Q : α → Mem → Prop} : Ok (fun _ => Go.Proofs.YtooogfnmhfocjaaGreatDoor.Spl.ret v) m Q ↔ Q v m :=
  ⟨fun ⟨r, m', h, N, hN⟩ => by have := hN N (Nat.le_refl _); cases this; exact h, Ok.ret⟩
/-- One thing behind another. -/
theorem Ok.bnd {α β : Type} {x : Nat → M α} {k : Nat → α → M β} {m : Mem} {Q : β → Mem → Prop} (h : Ok x m fun v m1 => Ok (fun n => k n v) m1 Q) : Ok (fun n => Go.Proofs.YtooogfnmhfocjaaGreatDoor.Spl.bnd (x n) (k n)) m Q := by
  obtain ⟨v, m1, ⟨r, m2, hq, N2, h2⟩, N1, h1⟩ := h
  refine ⟨r, m2, hq, max N1 N2, fun n hn => ?_⟩
  show (match x n m with | some (a, m') => k n a m' | none => none) = _
  rw [h1 n (by omega)]
  exact h2 n (by omega)
/-- An operation of the memory. -/
theorem ok_op {α β : Type} {x : M α} {k : Nat → α → M β} {m : Mem} {Q : β → Mem → Prop} : Ok (fun n => Go.Proofs.YtooogfnmhfocjaaGreatDoor.Spl.bnd x (k n)) m Q ↔ ∃ v m1, x m = some (v, m1) ∧ Ok (fun n => k n v) m1 Q := by
  constructor
  · rintro ⟨r, m2, hq, N, h⟩
    have h0 := h N (Nat.le_refl _)
    cases hx : x m with
    | none => simp [Go.Proofs.YtooogfnmhfocjaaGreatDoor.Spl.bnd, hx] at h0
    | some p =>
      obtain ⟨v, m1⟩ := p
      refine ⟨v, m1, rfl, r, m2, hq, N, fun n hn => ?_⟩
      have := h n hn
      simpa [Go.Proofs.YtooogfnmhfocjaaGreatDoor.Spl.bnd, hx] using this
  · rintro ⟨v, m1, hx, h⟩
    exact Ok.bnd ⟨v, m1, h, 0, fun _ _ => hx⟩
theorem ok_snap {α : Type} {k : Nat → Mem → M α} {m : Mem} {Q : α → Mem → Prop} : Ok (fun n => Spl.snap (k n)) m Q ↔ Ok (fun n => k n m) m Q := Iff.rfl

theorem lp_some' {α β : Type} (a : α) (k : α → M β) : lp (some a) k = k a := rfl
theorem mc_true {α : Type} (a b : M α) : mc (.bool true) a b = a := rfl
theorem mc_false {α : Type} (a b : M α) : mc (.bool false) a b = b := rfl
theorem Ok.mc {α : Type} {c : Bool} {a b : Nat → M α} {m : Mem} {Q : α → Mem → Prop} (ha : c = true → Ok a m Q) (hb : c = false → Ok b m Q) : Ok (fun n => Spl.mc (.bool c) (a n) (b n)) m Q := by
  cases c with
  | true => exact ha rfl
  | false => exact hb rfl
theorem ok_mc {α : Type} {c : Bool} {a b : Nat → M α} {m : Mem} {Q : α → Mem → Prop} : Ok (fun n => Spl.mc (.bool c) (a n) (b n)) m Q ↔ if c then Ok a m Q else Ok b m Q := by
  cases c <;> exact Iff.rfl

/-- A call of a function, at one fuel less. -/
theorem Ok.call {P : Program} {ext : Ext} {f : Nat} {args : List AV} {body : Nat → M AV} {m : Mem} {Q : AV → Mem → Prop} (he : ∀ n, fcall P ext (n + 1) f args = body n) (h : Ok body m Q) : Ok (fun n => fcall P ext n f args) m Q := by
  obtain ⟨r, m', hq, N, hN⟩ := h
  refine ⟨r, m', hq, N + 1, fun n hn => ?_⟩
  obtain ⟨k, rfl⟩ : ∃ k, n = k + 1 := ⟨n - 1, by omega⟩
  simp only [he]
  exact hN k (by omega)
/-- A function that is told of. -/
theorem Ok.told {P : Program} {ext : Ext} {f : Nat} {k : List AV → M AV} {args : List AV} {m : Mem} {Q : AV → Mem → Prop} (he : ext f = some k) {v : AV} {m1 : Mem} (hk : k args m = some (v, m1)) (h : Q v m1) : Ok (fun n => fcall P ext n f args) m Q := by
  refine ⟨v, m1, h, 1, fun n hn => ?_⟩
  obtain ⟨j, rfl⟩ : ∃ j, n = j + 1 := ⟨n - 1, by omega⟩
  show fcall P ext (j + 1) f args m = _
  unfold fcall
  rw [he]
  exact hk

/-- A loop: I k l m: the loop's variables are l, the memory m, and at most k rounds are to come. -/
theorem Ok.loop {α : Type} {step : Nat → (List AV → M α) → List AV → M α} {Q : α → Mem → Prop} (I : Nat → List AV → Mem → Prop)
    (h : ∀ k l m (rec : Nat → List AV → M α), I k l m → (∀ k' l' m', k' < k → I k' l' m' → Ok (fun n => rec n l') m' Q) → Ok (fun n => step n (rec n) l) m Q)
    {k : Nat} {l : List AV} {m : Mem} (hi : I k l m) : Ok (fun n => loopN (step n) n l) m Q := by
  have main : ∀ (k : Nat) (l : List AV) (m : Mem) (d : Nat), I k l m → Ok (fun n => loopN (step n) (n - d) l) m Q := by
    intro k
    induction k using Nat.strongRecOn with
    | _ k ih =>
      intro l m d hi
      obtain ⟨r, m', hq, N, hN⟩ := h k l m (fun n l' => loopN (step n) (n - (d + 1)) l') hi (fun k' l' m' hk hi' => ih k' hk l' m' (d + 1) hi')
      refine ⟨r, m', hq, max N (d + 1), fun n hn => ?_⟩
      have e : n - d = (n - (d + 1)) + 1 := by omega
      have := hN n (by omega)
      show loopN (step n) (n - d) l m = _
      rw [e]
      exact this
  exact main k l m 0 hi

/-- What an Ok says of one fuel. -/
theorem Ok.some {α : Type} {x : Nat → M α} {m : Mem} {Q : α → Mem → Prop} (h : Ok x m Q) : ∃ n r m', x n m = Option.some (r, m') ∧ Q r m' := by
  obtain ⟨r, m', hq, N, hN⟩ := h
  exact ⟨N, r, m', hN N (Nat.le_refl _), hq⟩

end Go.Proofs.YtooogfnmhfocjaaGreatDoor.Spl
