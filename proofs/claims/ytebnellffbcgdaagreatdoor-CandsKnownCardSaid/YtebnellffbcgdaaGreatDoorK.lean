/-
  henkanlaw26.CandsKnown: the row.
-/
import Derived.Test.YtebnellffbcgdaaGreatDoorB
import Derived.Test.YtebnellffbcgdaaGreatDoorM14
import Derived.Test.YtebnellffbcgdaaGreatDoorF4
set_option linter.unusedVariables false
set_option linter.unusedSimpArgs false
set_option linter.unusedSectionVars false
namespace Go.Proofs.YtebnellffbcgdaaGreatDoor
open Go.ChangeShapes Go.WideShapes Go.ChangeAt Go.RowKit
/-- The law's call. -/
theorem known_calls {W : World} (hs : W.ShapedOpen Tryz.prog) (hL : laidMet Tryz.prog Rows.candsKnownRow.laid W) : Calls Tryz.prog 5 #[] W fun e W' => e = .returned (.bool true) ∧ Ev.Grown' W W' :=
  callsIn_wide.1 (Ev.memo_true Ev.k24 rfl rfl rfl Tryz.func5 (by kernel_rfl) rfl (globs_ok hs hL) (size_ok hs))

set_option maxRecDepth 100000 in
theorem known_lifted (os : Os) (started : os.Started) (H : Type) (enc : TypeId × Value → H) :
    ReturnsInHanded {} Tryz.checked os 5 .any (fun w args => (Rows.candsKnownSpec.pre enc Tryz.prog Tryz.f5 [] false w args ∧ laidMetH Tryz.prog Rows.candsKnownRow.laid w) ∧ sizedMet enc Tryz.prog Tryz.f5 (OpenSpec.ofChange Rows.candsKnownSpec) false w args)
      (Rows.candsKnownSpec.post enc Tryz.prog Tryz.f5 false true false false) := by
  refine handed_and_shaped (C := Tryz.checked) (X := fun w _ => laidMetH Tryz.prog Rows.candsKnownRow.laid w) (fun _ _ _ hh h => h.of_heap hh) own started (by kernel_rfl) Tryz.func5
    (ChangeSpec.witness_at (enc := enc) (C := Tryz.checked) (os := os) (X := fun w _ => laidMetH Tryz.prog Rows.candsKnownRow.laid w) false (World.laidAll Tryz.prog os Rows.candsKnownRow.laid) #[] 8 (World.laidAll_os _ _ _) (by kernel_rfl) (by kernel_rfl) (by kernel_rfl) (by kernel_rfl) (by kernel_rfl) (laidWorld_met os _)) ?_
  intro W base args ds gs before _ hW _ _ hL hs _
  have hL' : laidMet Tryz.prog Rows.candsKnownRow.laid W := by
    have h : laidMetH Tryz.prog Rows.candsKnownRow.laid W := hL
    rw [MakeChecks.laidMetH_plain _ _ _ (by kernel_rfl)] at h
    exact h
  have hW' := hW
  obtain ⟨p, q, hA0, hV0, rfl, hfz, hnd⟩ := hW
  have hA : DataW.TrodAll enc Tryz.prog W 0 (fun _ => true) true Tryz.f5.params.toList args.toList ds p := hA0
  have hV : DataW.TrodVars enc Tryz.prog W (fun _ => true) [] gs q := hV0
  rw [Tryz.params5] at hA
  obtain ⟨rfl, rfl, rfl⟩ := trodAll_none hA
  obtain ⟨rfl, rfl⟩ := trodVars_none hV
  have e1 : Rows.candsKnownSpec.fn H ([] ++ []) = { results := [.lit (.bool true)], args := [] } := by simp [Rows.candsKnownSpec]
  refine (known_calls hs hL').mono fun e W' ⟨he, hw⟩ => ?_
  subst he
  refine ⟨_, rfl, _, _, _, [], [], [], hW', ?_, ?_, ?_, hw.kept _, fun h => by cases h⟩
  · rw [e1]; exact trodAll_mk1 (shut_bool Tryz.underlying4 true)
  · rw [e1]; exact hA
  · rw [e1]; rfl

theorem known_holds : Rows.CandsKnownSaid :=
  OpenClaim.holds_of_wide 5 Tryz.f5 rfl rfl rfl rfl rfl rfl rfl ⟨rfl, rfl, rfl, rfl, rfl⟩ rfl rfl rfl rfl rfl (by kernel_rfl) Tryz.func5 facts5
    (of_decide_eq_true (by kernel_rfl)) (by unfold Func.isWrapper; rw [if_neg (of_decide_eq_false (by kernel_rfl))]; exact ⟨rfl, rfl⟩)
    (fun os started H enc _ => known_lifted os started H enc)
#print axioms known_holds
end Go.Proofs.YtebnellffbcgdaaGreatDoor
