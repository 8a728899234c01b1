/- CodeBack: a frame comes back from its octets; what is read is written as it was: for all arguments of the row. -/
import Derived.Test.YtooogfnmhfocjaaDoorSplM4
import Derived.Test.YtooogfnmhfocjaaDoorCards
import Derived.Test.YtooogfnmhfocjaaDoorTie
import Derived.Deep.DeepHandedRow
import Derived.Lib.LaidTab
import Derived.KernelRfl
import Derived.ChangeMaps5
namespace Go.Proofs.YtooogfnmhfocjaaDoor.codeBack
open SplA Go.Proofs.YtooogfnmhfocjaaDoor.Spl Go Go.RowKit Go.ChangeShapes Go.WideShapes Go.ChangeAt
set_option maxRecDepth 100000

theorem noEscape (x : Value) (w : World) : (callFunc fn_internal_abi_NoEscape #[x]).run Tryd.prog w = .ok (.value x) w := by kernel_rfl
theorem ext0_ok (W : Ref) : ExtOk Tryd.prog W ext0 := (ExtOk.none _ _).plus (same1_ok noEscape)
theorem mixed : Tryd.prog.follows .mixedOrders = true := by kernel_rfl
theorem noGo : Tryd.prog.funcs.all (fun fn => fn.name != "runtime.NumGoroutine") = true := by kernel_rfl
theorem noGo' (f : Nat) (fn : Func) (h : Tryd.prog.funcs[f]? = some fn) : fn.name ≠ "runtime.NumGoroutine" := by
  have := Array.all_eq_true'.1 noGo fn (Array.mem_of_getElem? h)
  simpa using this
theorem madeRuns : ∀ x ∈ madeO, comesTo (fcall Tryd.prog ext0 60 fn_pvq_made x.1 Mem.empty) x.2.1 x.2.2 = true ∧ x.1.all isInt = true := by
  intro x hx
  obtain rfl := List.mem_singleton.1 hx
  exact ⟨by rw [← fast_is]; exact madeRun, rfl⟩
theorem extM_ok (W : Ref) : ExtOk Tryd.prog W extM := (ext0_ok W).plus (closedTo_ok mixed noGo' ext0_ok madeRuns W)
theorem awakes : comesTrue (fcall Tryd.prog extM 100 fn_law22_awake [] Mem.empty) = true := by rw [← fast_is]; exact awakeRun
theorem ext1_ok (W : Ref) : ExtOk Tryd.prog W ext1 := (ext0_ok W).plus (closed_ok mixed noGo' extM_ok awakes W)
theorem not_agg {P : Program} {w : World} {r : Reach} {b : Nat} {t e : TypeId} {v : Value} (ht : P.underlying t = some (.slice e)) (h : Value.okWide P w r b t v) (cs : Array Value) : v ≠ .agg cs := by
  rintro rfl
  simp [Value.okWide, ht, Cell.okWide, Cell.ok] at h

theorem own : ownKnob Tryd.prog.godebug = none := by kernel_rfl

theorem contract (H : Type) (enc : TypeId × Value → H) (W : World) (base : Nat) (args : Array Value) (ds gs : List (DataW H)) (before : List MemPlace)
    (hval : ∀ (j : Nat) t v, Tryd.f3.params[j]? = some t → args[j]? = some v → Value.okWide Tryd.prog W .any base t v)
    (hW : DataW.Whole enc Tryd.prog Tryd.f3.params.toList Rows.codeBackSpec.vars false W args.toList ds gs before) :
    Calls Tryd.prog 3 args W fun e W' => ∃ v, e = .returned v ∧ Rows.codeBackSpec.post enc Tryd.prog Tryd.f3 false true false false W args v W' := by
  have hW' := hW
  obtain ⟨p, q, hA0, hV, rfl, hfz, hnd⟩ := hW
  have hA : DataW.TrodAll enc Tryd.prog W 0 (fun _ => true) true Tryd.f3.params.toList args.toList ds p := hA0
  rw [Tryd.params3] at hA hval
  obtain ⟨v0, vs0, d0, ds0, p0, q0, hargs, rfl, rfl, h0, r0⟩ := trodAll_cons hA
  obtain ⟨v1, vs1, d1, ds1, p1, q1, rfl, rfl, rfl, h1, r1⟩ := trodAll_cons r0
  obtain ⟨v2, vs2, d2, ds2, p2, q2, rfl, rfl, rfl, h2, r2⟩ := trodAll_cons r1
  obtain ⟨v3, vs3, d3, ds3, p3, q3, rfl, rfl, rfl, h3, r3⟩ := trodAll_cons r2
  obtain ⟨v4, vs4, d4, ds4, p4, q4, rfl, rfl, rfl, h4, r4⟩ := trodAll_cons r3
  obtain ⟨rfl, rfl, rfl⟩ := trodAll_nil r4
  obtain rfl : args = #[v0, v1, v2, v3, v4] := by cases args; simp_all
  obtain ⟨a1, rfl, rfl, rfl, w1⟩ := open_int Tryd.underlying3 (hval 1 3 v1 rfl rfl) h1
  obtain ⟨a2, rfl, rfl, rfl, w2⟩ := open_int Tryd.underlying3 (hval 2 3 v2 rfl rfl) h2
  obtain ⟨s4, rfl, _⟩ := Go.ChangeMaps.open_string Tryd.underlying9 (hval 4 9 v4 rfl rfl) h4
  obtain ⟨f, fv, ef, hf⟩ := frame_arg Tryd.underlying24 (by kernel_rfl) (by kernel_rfl) Tryd.underlying4 (by kernel_rfl) Tryd.underlying3 (by kernel_rfl) (by kernel_rfl) Tryd.underlying22 Tryd.underlying39 (by kernel_rfl) (by kernel_rfl) (by kernel_rfl) Tryd.underlying37 Tryd.underlying42 (by kernel_rfl) Tryd.underlying40 (by kernel_rfl) (by kernel_rfl) h0
  obtain ⟨pl, hpl, hp⟩ := rows_arg (not_agg Tryd.underlying25 (hval 3 25 v3 rfl rfl)) Tryd.underlying25 Tryd.underlying40 Tryd.underlying3 (by kernel_rfl) (by kernel_rfl) h3
  have hrun := codeBack_ok (s := s4.data.toList) (n := a1) (q := a2) hf (fun _ h => h) (Nat.le_refl _) hp hpl
  rw [← ef, bs_of] at hrun
  obtain ⟨n, r, m', hr, rfl⟩ := hrun.some
  have hcalls := law_calls mixed noGo' ext1_ok Tryd.func3 (by kernel_rfl) (W := W) (args := #[v0, .int .i64 a1, .int .i64 a2, v3, .string s4]) ⟨n, by
    show comesTrue (fcall Tryd.prog ext1 n 3 [conv W.heap.size v0, .int .i64 a1, .int .i64 a2, conv W.heap.size v3, .str s4] (mirror W)) = true
    rw [show fcall Tryd.prog ext1 n 3 [conv W.heap.size v0, .int .i64 a1, .int .i64 a2, conv W.heap.size v3, .str s4] (mirror W) = _ from hr]
    rfl⟩
  refine hcalls.mono fun e W' ⟨he, hb⟩ => ⟨_, he, ?_⟩
  exact law_post (tb := 4) (by kernel_rfl) (by kernel_rfl) rfl (by kernel_rfl) Tryd.underlying4 (fun _ => rfl) hW' hb

/-- A WORLD FOR THE WITNESS: the settled one, the tables holding what their initialisers lay. -/
noncomputable def laidWorld (os : Os) : World := laidIn Tryd.prog Rows.codeBackRow.laid (World.holding Tryd.prog os ⟨#[], #[], []⟩)
theorem laid_met (os : Os) : laidMet Tryd.prog Rows.codeBackRow.laid ((laidWorld os).forCall (fun _ _ => 0) ⟨#[], #[.agg #[.bool false, .bool false, .bool false, .int .i64 0, .slice none 0 0], .int .i64 0, .int .i64 0, .slice none 0 0, .string .empty], []⟩).memory :=
  laidMet_of_run' 8 (by kernel_rfl) (by kernel_rfl)
theorem reads (os : Os) {H : Type} (enc : TypeId × Value → H) : ∃ places, DataW.whole enc Tryd.prog ((laidWorld os).forCall (fun _ _ => 0) ⟨#[], #[.agg #[.bool false, .bool false, .bool false, .int .i64 0, .slice none 0 0], .int .i64 0, .int .i64 0, .slice none 0 0, .string .empty], []⟩).memory Tryd.f3.params.toList Rows.codeBackSpec.vars false #[Value.agg #[.bool false, .bool false, .bool false, .int .i64 0, .slice none 0 0], .int .i64 0, .int .i64 0, .slice none 0 0, .string .empty].toList 8 = some ([.agg [.lit (.bool false), .lit (.bool false), .lit (.bool false), .lit (.int .i64 0), .nil], .lit (.int .i64 0), .lit (.int .i64 0), .nil, .lit (.string [])], [], places) :=
  ⟨[], by kernel_rfl⟩

theorem lifted (os : Os) (started : os.Started) (H : Type) (enc : TypeId × Value → H) (F : Stop.Interp) :
    ReturnsInHanded {} Tryd.checked os 3 .any ((OpenSpec.ofChange Rows.codeBackSpec).preRow enc Tryd.prog Tryd.f3 Rows.codeBackRow.domain false Rows.codeBackRow.laid) (((OpenSpec.ofChange Rows.codeBackSpec).at F).post enc Tryd.prog Tryd.f3 false true false false) := by
  obtain ⟨places, hx⟩ := reads os enc
  refine returnsInHanded_of_row (C := Tryd.checked) (s := OpenSpec.ofChange Rows.codeBackSpec) own started (by kernel_rfl) Tryd.func3
    (witness_row_at (enc := enc) (C := Tryd.checked) false (laidWorld os) #[.agg #[.bool false, .bool false, .bool false, .int .i64 0, .slice none 0 0], .int .i64 0, .int .i64 0, .slice none 0 0, .string .empty] rfl (by kernel_rfl) (by kernel_rfl) (by kernel_rfl)
      (OpenSpec.preRow_of_cond 8 hx (by kernel_rfl) (fun k hk => by cases hk) (by kernel_rfl) (laid_met os))) ?_
  intro W base args ds gs before hval hW _ _ _ hL _ _
  exact contract H enc W base args ds gs before hval hW

theorem said : Rows.CodeBackSaid :=
  OpenClaim.holds_of_cond 3 Tryd.f3 rfl rfl rfl rfl rfl rfl rfl ⟨rfl, rfl, rfl, rfl, rfl⟩ rfl rfl rfl rfl rfl (by kernel_rfl) Tryd.func3 (by kernel_rfl)
    (of_decide_eq_true (by kernel_rfl)) (by unfold Func.isWrapper; first | (rw [if_pos (by decide +kernel)]; kernel_rfl) | (rw [if_neg (by decide +kernel)]; exact ⟨rfl, rfl⟩))
    (fun os started H enc _ F => by rw [OpenClaim.pre_eq_preRow]; exact lifted os started H enc F)

theorem plain (f : FuncId) (fn : Func) (hf : Tryd.pinned.checked.prog.funcNamed "splicer/splicerlaw22.CodeBack" = some f) (hfn : Tryd.pinned.checked.prog.funcs[f]? = some fn) :
    false = Tryd.pinned.checked.prog.looks [] ∧ ∀ (j : Nat) t, fn.params[j]? = some t → Tryd.pinned.checked.prog.wantsStandIn t = false := by
  obtain rfl : f = 3 := Option.some.inj ((show Tryd.prog.funcNamed "splicer/splicerlaw22.CodeBack" = some 3 by kernel_rfl).symm.trans hf) |>.symm
  obtain rfl : fn = Tryd.f3 := (Option.some.inj (Tryd.func3.symm.trans hfn)).symm
  refine ⟨by kernel_rfl, fun j t ht => ?_⟩
  have h0 : Tryd.f3.params.all (fun t => !Tryd.prog.wantsStandIn t) = true := by kernel_rfl
  have := Array.all_eq_true'.1 h0 t (Array.mem_of_getElem? ht)
  exact (show Tryd.prog.wantsStandIn t = false by simpa using this)

/-- THE CARD -/
theorem card : Rows.CodeBackCardSaid :=
  Claim7.holds_tied_plain_at .later [] _ _ _ _ said (fun _ h => by cases h) (by kernel_rfl) (fun _ h => by cases h) codeBack_row_tie rfl ⟨rfl, rfl⟩ (by kernel_rfl) rfl plain (by kernel_rfl)
#print axioms card
end Go.Proofs.YtooogfnmhfocjaaDoor.codeBack
