/- SymGets: whatever octets there are, the numbers that are taken of them are the document's. -/
import Derived.Test.YtimominjaikblabDoorSplGets
import Derived.Test.YtimominjaikblabDoorSplArr
import Derived.Test.YtimominjaikblabDoorCards
import Derived.Test.YtimominjaikblabDoorTie
import Derived.Deep.DeepHandedRow
import Derived.Lib.LaidTab
import Derived.KernelRfl
import Derived.ChangeMaps5
namespace Go.Proofs.YtimominjaikblabDoor.symGets
open SplA Go.Proofs.YtimominjaikblabDoor.Spl Go Go.RowKit Go.ChangeShapes Go.WideShapes Go.ChangeAt
set_option maxRecDepth 100000

theorem noEscape (x : Value) (w : World) : (callFunc fn_internal_abi_NoEscape #[x]).run Tryd.prog w = .ok (.value x) w := by kernel_rfl
theorem ext0_ok (W : Ref) : ExtOk Tryd.prog W ext0 := (ExtOk.none _ _).plus (same1_ok noEscape)
theorem mixed : Tryd.prog.follows .mixedOrders = true := by kernel_rfl
theorem noGo : Tryd.prog.funcs.all (fun fn => fn.name != "runtime.NumGoroutine") = true := by kernel_rfl
theorem noGo' (f : Nat) (fn : Func) (h : Tryd.prog.funcs[f]? = some fn) : fn.name ≠ "runtime.NumGoroutine" := by
  have := Array.all_eq_true'.1 noGo fn (Array.mem_of_getElem? h)
  simpa using this
theorem awakes : comesTrue (fcall Tryd.prog ext0 100 fn_law05_awake [] Mem.empty) = true := by kernel_rfl
theorem ext1_ok (W : Ref) : ExtOk Tryd.prog W ext1 := (ext0_ok W).plus (closed_ok mixed noGo' ext0_ok awakes W)
theorem not_agg {P : Program} {w : World} {r : Reach} {b : Nat} {t e : TypeId} {v : Value} (ht : P.underlying t = some (.slice e)) (h : Value.okWide P w r b t v) (cs : Array Value) : v ≠ .agg cs := by
  rintro rfl
  simp [Value.okWide, ht, Cell.okWide, Cell.ok] at h

theorem own : ownKnob Tryd.prog.godebug = none := by kernel_rfl

theorem contract (H : Type) (enc : TypeId × Value → H) (W : World) (base : Nat) (args : Array Value) (ds gs : List (DataW H)) (before : List MemPlace)
    (hval : ∀ (j : Nat) t v, Tryd.f4.params[j]? = some t → args[j]? = some v → Value.okWide Tryd.prog W .any base t v)
    (hW : DataW.Whole enc Tryd.prog Tryd.f4.params.toList Rows.symGetsSpec.vars false W args.toList ds gs before) :
    Calls Tryd.prog 4 args W fun e W' => ∃ v, e = .returned v ∧ Rows.symGetsSpec.post enc Tryd.prog Tryd.f4 false true false false W args v W' := by
  have hW' := hW
  obtain ⟨p, q, hA0, hV, rfl, hfz, hnd⟩ := hW
  have hA : DataW.TrodAll enc Tryd.prog W 0 (fun _ => true) true Tryd.f4.params.toList args.toList ds p := hA0
  rw [Tryd.params4] at hA hval
  obtain ⟨v0, vs0, d0, ds0, p0, q0, hargs, rfl, rfl, h0, r0⟩ := trodAll_cons hA
  obtain ⟨v1, vs1, d1, ds1, p1, q1, rfl, rfl, rfl, h1, r1⟩ := trodAll_cons r0
  obtain ⟨rfl, rfl, rfl⟩ := trodAll_nil r1
  obtain rfl : args = #[v0, v1] := by cases args; simp_all
  obtain ⟨s0, rfl, _⟩ := Go.ChangeMaps.open_string Tryd.underlying9 (hval 0 9 v0 rfl rfl) h0
  obtain ⟨L, hL, hw⟩ := items_of Tryd.underlying22 Tryd.underlying40 (by kernel_rfl) (by kernel_rfl) (by kernel_rfl) (not_agg Tryd.underlying22 (hval 1 22 v1 rfl rfl)) h1
  have hrun := symGets_ok (S := s0.data.toList) hL (Nat.le_refl _)
  rw [bs_of] at hrun
  obtain ⟨n, r, m', hr, rfl⟩ := hrun.some
  have hcalls := law_calls mixed noGo' ext1_ok Tryd.func4 (by kernel_rfl) (W := W) (args := #[.string s0, v1]) ⟨n, by
    show comesTrue (fcall Tryd.prog ext1 n 4 [.str s0, conv W.heap.size v1] (mirror W)) = true
    rw [show fcall Tryd.prog ext1 n 4 [.str s0, conv W.heap.size v1] (mirror W) = _ from hr]
    rfl⟩
  refine hcalls.mono fun e W' ⟨he, hb⟩ => ⟨_, he, ?_⟩
  exact law_post (tb := 4) (by kernel_rfl) (by kernel_rfl) rfl (by kernel_rfl) Tryd.underlying4 (fun _ => rfl) hW' hb

/-- A WORLD FOR THE WITNESS: the settled one, the tables holding what their initialisers lay. -/
noncomputable def laidWorld (os : Os) : World := laidIn Tryd.prog Rows.symGetsRow.laid (World.holding Tryd.prog os ⟨#[], #[], []⟩)
theorem laid_met (os : Os) : laidMet Tryd.prog Rows.symGetsRow.laid ((laidWorld os).forCall (fun _ _ => 0) ⟨#[], #[.string .empty, .slice none 0 0], []⟩).memory :=
  laidMet_of_run' 8 (by kernel_rfl) (by kernel_rfl)
theorem reads (os : Os) {H : Type} (enc : TypeId × Value → H) : ∃ places, DataW.whole enc Tryd.prog ((laidWorld os).forCall (fun _ _ => 0) ⟨#[], #[.string .empty, .slice none 0 0], []⟩).memory Tryd.f4.params.toList Rows.symGetsSpec.vars false #[Value.string .empty, .slice none 0 0].toList 8 = some ([.lit (.string []), .nil], [], places) :=
  ⟨[], by kernel_rfl⟩

theorem lifted (os : Os) (started : os.Started) (H : Type) (enc : TypeId × Value → H) (F : Stop.Interp) :
    ReturnsInHanded {} Tryd.checked os 4 .any ((OpenSpec.ofChange Rows.symGetsSpec).preRow enc Tryd.prog Tryd.f4 Rows.symGetsRow.domain false Rows.symGetsRow.laid) (((OpenSpec.ofChange Rows.symGetsSpec).at F).post enc Tryd.prog Tryd.f4 false true false false) := by
  obtain ⟨places, hx⟩ := reads os enc
  refine returnsInHanded_of_row (C := Tryd.checked) (s := OpenSpec.ofChange Rows.symGetsSpec) own started (by kernel_rfl) Tryd.func4
    (witness_row_at (enc := enc) (C := Tryd.checked) false (laidWorld os) #[.string .empty, .slice none 0 0] rfl (by kernel_rfl) (by kernel_rfl) (by kernel_rfl)
      (OpenSpec.preRow_of_cond 8 hx (by kernel_rfl) (fun k hk => by cases hk) (by kernel_rfl) (laid_met os))) ?_
  intro W base args ds gs before hval hW _ _ _ hL _ _
  exact contract H enc W base args ds gs before hval hW

theorem said : Rows.SymGetsSaid :=
  OpenClaim.holds_of_cond 4 Tryd.f4 rfl rfl rfl rfl rfl rfl rfl ⟨rfl, rfl, rfl, rfl, rfl⟩ rfl rfl rfl rfl rfl (by kernel_rfl) Tryd.func4 (by kernel_rfl)
    (of_decide_eq_true (by kernel_rfl)) (by unfold Func.isWrapper; first | (rw [if_pos (by decide +kernel)]; kernel_rfl) | (rw [if_neg (by decide +kernel)]; exact ⟨rfl, rfl⟩))
    (fun os started H enc _ F => by rw [OpenClaim.pre_eq_preRow]; exact lifted os started H enc F)

theorem plain (f : FuncId) (fn : Func) (hf : Tryd.pinned.checked.prog.funcNamed "splicer/splicerlaw05.SymGets" = some f) (hfn : Tryd.pinned.checked.prog.funcs[f]? = some fn) :
    false = Tryd.pinned.checked.prog.looks [] ∧ ∀ (j : Nat) t, fn.params[j]? = some t → Tryd.pinned.checked.prog.wantsStandIn t = false := by
  obtain rfl : f = 4 := Option.some.inj ((show Tryd.prog.funcNamed "splicer/splicerlaw05.SymGets" = some 4 by kernel_rfl).symm.trans hf) |>.symm
  obtain rfl : fn = Tryd.f4 := (Option.some.inj (Tryd.func4.symm.trans hfn)).symm
  refine ⟨by kernel_rfl, fun j t ht => ?_⟩
  have h0 : Tryd.f4.params.all (fun t => !Tryd.prog.wantsStandIn t) = true := by kernel_rfl
  have := Array.all_eq_true'.1 h0 t (Array.mem_of_getElem? ht)
  exact (show Tryd.prog.wantsStandIn t = false by simpa using this)

/-- THE CARD -/
theorem card : Rows.SymGetsCardSaid :=
  Claim7.holds_tied_plain_at .later [] _ _ _ _ said (fun _ h => by cases h) (by kernel_rfl) (fun _ h => by cases h) symGets_row_tie rfl ⟨rfl, rfl⟩ (by kernel_rfl) rfl plain (by kernel_rfl)
#print axioms card
end Go.Proofs.YtimominjaikblabDoor.symGets
