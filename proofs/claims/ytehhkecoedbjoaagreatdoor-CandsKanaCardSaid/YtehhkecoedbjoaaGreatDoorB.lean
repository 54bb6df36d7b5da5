/-
  What the laws of this seat have in common: the listed variables, the state that a call begins in, the wrap.
-/
import Derived.Test.YtehhkecoedbjoaaGreatDoorRows
import Derived.Test.YtehhkecoedbjoaaGreatDoorEv18
import Derived.Test.YtehhkecoedbjoaaGreatDoorMD
import Derived.ProofKit
import Derived.Lay
import Derived.LaidMore
import Derived.SevenTiedAt
set_option linter.unusedVariables false
set_option linter.unusedSimpArgs false
set_option linter.unusedSectionVars false
namespace Go.Proofs.YtehhkecoedbjoaaGreatDoor
open Go.ChangeShapes Go.WideShapes Go.ChangeAt Go.RowKit

theorem own : ownKnob Tryz.prog.godebug = none := by kernel_rfl
/-- The listed variables that the runs look at. -/
theorem globs_ok {W : World} (hs : W.ShapedOpen Tryz.prog) (hL : laidMet Tryz.prog Rows.candsKanaRow.laid W) : Ev.GlobOk Tryz.prog W [(0, Ev.glob0), (1, Ev.glob1), (6, Ev.glob6)] := by
  exact ⟨⟨_, _, rfl, by kernel_rfl, Ev.laid_cells hs hL (List.mem_of_getElem? (i := 8) rfl) (g := 0) (n := 4) (by kernel_rfl) (Tryz.prog.globals[0]?.eq_some_of_isSome (by kernel_rfl)) (by kernel_rfl)⟩, ⟨⟨_, _, rfl, by kernel_rfl, Ev.laid_cells hs hL (List.mem_of_getElem? (i := 4) rfl) (g := 1) (n := 4) (by kernel_rfl) (Tryz.prog.globals[1]?.eq_some_of_isSome (by kernel_rfl)) (by kernel_rfl)⟩, ⟨⟨_, _, rfl, by kernel_rfl, Ev.laid_cells hs hL (List.mem_of_getElem? (i := 0) rfl) (g := 6) (n := 4) (by kernel_rfl) (Tryz.prog.globals[6]?.eq_some_of_isSome (by kernel_rfl)) (by kernel_rfl)⟩, trivial⟩⟩⟩
theorem size_ok {W : World} (hs : W.ShapedOpen Tryz.prog) : Ev.tau.ng ≤ W.heap.size := by
  obtain ⟨cs, h⟩ := Ev.shaped_cells hs (g := 9) (Tryz.prog.globals[9]?.eq_some_of_isSome (by kernel_rfl))
  have : 9 < W.heap.size := by
    rcases Nat.lt_or_ge 9 W.heap.size with h' | h'
    · exact h'
    · rw [Array.getElem?_eq_none h'] at h; cases h
  exact this
theorem grown_below {W W' : World} (h : Ev.Grown' W W') : Below W.heap.size W W' := ⟨h.os, h.tape, h.out, h.size, h.same⟩
section
variable {H : Type} {enc : TypeId × Value → H}
/-- The wrap, the world's shape kept. -/
theorem handed_and_shaped {a : Assume} {C : Checked} {os : Os} {f : FuncId} {fn : Func} {s : ChangeSpec} {conds : List PathCond} {apart fresh handsOn again : Bool} {X : World → Array Value → Prop}
    (hX : ∀ (w w' : World) (args : Array Value), w.heap = w'.heap → X w args → X w' args)
    (own : ownKnob C.prog.godebug = none) (started : os.Started) (noInit : C.prog.inits.idxOf? f = none) (hfn : C.prog.funcs[f]? = some fn)
    (witness : ∃ (w : World) (tape : Tape) (i : Input), w.os = os ∧ (w.forCall tape i).Shaped C.prog ∧ i.vars = [] ∧ Input.okWide C.prog (w.forCall tape i) .any w.heap.size f i ∧
      ((s.pre enc C.prog fn conds apart (w.forCall tape i).memory i.args ∧ X (w.forCall tape i).memory i.args) ∧ sizedMet enc C.prog fn (OpenSpec.ofChange s) apart (w.forCall tape i).memory i.args) ∧ a.holds C.prog (lone (Frame.enter C.prog f i.args .normal) [] (w.forCall tape i)))
    (contract : ∀ (W : World) (base : Nat) (args : Array Value) (ds gs : List (DataW H)) (before : List MemPlace),
      (∀ (j : Nat) t v, fn.params[j]? = some t → args[j]? = some v → Value.okWide C.prog W .any base t v) →
      DataW.Whole enc C.prog fn.params.toList s.vars apart W args.toList ds gs before →
      conds.all (PathCond.test C.prog ⟨fn.params.toList, ds, s.plain.varTypes C.prog, gs⟩) = true →
      (DataW.weightsEach C.prog (fn.params.toList ++ s.plain.varTypes C.prog) (ds ++ gs)).all (· ≤ reachBytes) = true → X W args → W.ShapedOpen C.prog →
      a.holds C.prog (lone (Frame.enter C.prog f args .normal) [] W) →
      Calls C.prog f args W fun e W' => ∃ v, e = .returned v ∧ s.post enc C.prog fn apart fresh handsOn again W args v W') :
    ReturnsInHanded a C os f .any (fun w args => (s.pre enc C.prog fn conds apart w args ∧ X w args) ∧ sizedMet enc C.prog fn (OpenSpec.ofChange s) apart w args) (s.post enc C.prog fn apart fresh handsOn again) := by
  refine returnsInHanded_of_calls own started noInit witness ?_
  intro w tape i _ hsh _ hok hpre hholds
  obtain ⟨_, _, _, fn', hfn', _, _, _, _, hval⟩ := hok
  have e : fn' = fn := Option.some.inj (hfn'.symm.trans hfn)
  subst e
  obtain ⟨⟨⟨ds, gs, before, hw, hc⟩, hx⟩, hz⟩ := hpre
  have hw' := DataW.Whole.of_heap (w' := w.forCall tape i) (by rfl) hw
  refine (contract (w.forCall tape i) w.heap.size i.args ds gs before hval hw' hc (hz.weights hw) (hX _ _ _ (by rfl) hx) hsh hholds).mono fun e W' ⟨v, he, hp⟩ => ?_
  subst he
  exact ChangeSpec.post_blind hp
end

theorem laidWorld_met (os : Os) (args : Array Value) : laidMetH Tryz.prog Rows.candsKanaRow.laid ((World.laidAll Tryz.prog os Rows.candsKanaRow.laid).forCall (fun _ _ => 0) ⟨#[], args, []⟩).memory := by
  rw [MakeChecks.laidMetH_plain _ _ _ (by kernel_rfl)]
  exact laidMet_laidAll args (by kernel_rfl) (by kernel_rfl)
end Go.Proofs.YtehhkecoedbjoaaGreatDoor
