/-
  henkanlaw26.CandsNone: the row.
-/
import Derived.Test.YtebnellffbcgdaaGreatDoorB
import Derived.Test.YtebnellffbcgdaaGreatDoorN0
import Derived.Test.YtebnellffbcgdaaGreatDoorG4
import Derived.Lib.SmallJoins
import Derived.Carry
set_option linter.unusedVariables false
set_option linter.unusedSimpArgs false
set_option linter.unusedSectionVars false
namespace Go.Proofs.YtebnellffbcgdaaGreatDoor
open Go.ChangeShapes Go.WideShapes Go.ChangeAt Go.RowKit Go.Lib
theorem grown_below {W W' : World} (h : Ev.Grown' W W') : Below W.heap.size W W' := ⟨h.os, h.tape, h.out, h.size, h.same⟩
/-- The law's call. -/
theorem none_calls {W : World} (hs : W.ShapedOpen Tryz.prog) (hL : laidMet Tryz.prog Rows.candsKnownRow.laid W) (a b d m : Int) :
    Calls Tryz.prog 4 #[.agg #[.int .i64 a, .int .i64 b], .int .i64 d, .int .i64 m] W fun e W' => e = .returned (.bool true) ∧ Ev.Grown' W W' :=
  callsIn_wide.1 (Ev.memo_true_args (Ev.kNone a b d m) rfl rfl rfl Tryz.func4 (by kernel_rfl) rfl (globs_ok hs hL) (size_ok hs))

set_option maxRecDepth 100000 in
theorem none_lifted (os : Os) (started : os.Started) (H : Type) (enc : TypeId × Value → H) :
    ReturnsInHanded {} Tryz.checked os 4 .any (fun w args => (Rows.candsNoneSpec.pre enc Tryz.prog Tryz.f4 [] false w args ∧ laidMetH Tryz.prog Rows.candsNoneRow.laid w) ∧ sizedMet enc Tryz.prog Tryz.f4 (OpenSpec.ofChange Rows.candsNoneSpec) false w args)
      (Rows.candsNoneSpec.post enc Tryz.prog Tryz.f4 false true false false) := by
  refine handed_and_shaped (C := Tryz.checked) (X := fun w _ => laidMetH Tryz.prog Rows.candsNoneRow.laid w) (fun _ _ _ hh h => h.of_heap hh) own started (by kernel_rfl) Tryz.func4
    (ChangeSpec.witness_at (enc := enc) (C := Tryz.checked) (os := os) (X := fun w _ => laidMetH Tryz.prog Rows.candsNoneRow.laid w) false (World.laidAll Tryz.prog os Rows.candsNoneRow.laid) #[.agg #[.int .i64 0, .int .i64 0], .int .i64 0, .int .i64 0] 8 (World.laidAll_os _ _ _) (by kernel_rfl) (by kernel_rfl) (by kernel_rfl) (by kernel_rfl) (by kernel_rfl) (laidWorld_met os _)) ?_
  intro W base args ds gs before hval0 hW _ _ hL hs _
  have hL' : laidMet Tryz.prog Rows.candsKnownRow.laid W := by
    have h : laidMetH Tryz.prog Rows.candsKnownRow.laid W := hL
    rw [MakeChecks.laidMetH_plain _ _ _ (by kernel_rfl)] at h
    exact h
  have hval : ∀ (j : Nat) t v, Tryz.f4.params[j]? = some t → args[j]? = some v → Value.okWide Tryz.prog W .any base t v := hval0
  have hW' := hW
  obtain ⟨p, q, hA0, hV0, rfl, hfz, hnd⟩ := hW
  have hA : DataW.TrodAll enc Tryz.prog W 0 (fun _ => true) true Tryz.f4.params.toList args.toList ds p := hA0
  have hV : DataW.TrodVars enc Tryz.prog W (fun _ => true) [] gs q := hV0
  rw [Tryz.params4] at hA hval
  obtain ⟨v0, v1, v2, d0, d1, d2, p0, p1, p2, rfl, rfl, rfl, h0, h1, h2⟩ := trodAll_three hA
  obtain ⟨rfl, rfl⟩ := trodVars_none hV
  have h0k := h0
  have h1k := h1
  have h2k := h2
  obtain ⟨x1, rfl, rfl, rfl, _⟩ := open_int Tryz.underlying3 (hval 1 3 v1 rfl rfl) h1
  obtain ⟨x2, rfl, rfl, rfl, _⟩ := open_int Tryz.underlying3 (hval 2 3 v2 rfl rfl) h2
  obtain ⟨u0, u1, y0, y1, n, rfl, rfl, rfl, g0, g1⟩ := Joins.open_agg2 Tryz.underlying27 (by kernel_rfl) (by kernel_rfl) (hval 0 27 v0 rfl rfl) h0
  obtain ⟨a, e0, rfl, _⟩ := DataW.trod_int Tryz.underlying3 g0
  obtain ⟨b, e1, rfl, _⟩ := DataW.trod_int Tryz.underlying3 g1
  obtain rfl : u0 = .int .i64 a := by simpa using e0
  obtain rfl : u1 = .int .i64 b := by simpa using e1
  simp only [List.append_nil] at hW' h0k
  have e2 : Rows.candsNoneSpec.fn H ([.agg [.lit (.int .i64 a), .lit (.int .i64 b)], .lit (.int .i64 x1), .lit (.int .i64 x2)] ++ []) = { results := [.lit (.bool true)], args := [.agg [.lit (.int .i64 a), .lit (.int .i64 b)], .lit (.int .i64 x1), .lit (.int .i64 x2)] } := by simp [Rows.candsNoneSpec]
  refine (none_calls hs hL' a b x1 x2).mono fun e W' ⟨he, hw⟩ => ?_
  subst he
  have hb := grown_below hw
  have a0 : DataW.Trod enc Tryz.prog W' 0 (fun b => decide (b < W.heap.size)) true 27 _ _ [] := Below.trod laidOut (by kernel_rfl) (of_decide_eq_true (by kernel_rfl)) h0k hb (fun y hy => by cases hy)
  have a1 : DataW.Trod enc Tryz.prog W' 0 (fun b => decide (b < W.heap.size)) true 3 _ _ [] := Below.trod laidOut (by kernel_rfl) (of_decide_eq_true (by kernel_rfl)) h1k hb (fun y hy => by cases hy)
  have a2 : DataW.Trod enc Tryz.prog W' 0 (fun b => decide (b < W.heap.size)) true 3 _ _ [] := Below.trod laidOut (by kernel_rfl) (of_decide_eq_true (by kernel_rfl)) h2k hb (fun y hy => by cases hy)
  refine ⟨_, rfl, _, _, _, [], [], [], hW', ?_, ?_, ?_, hw.kept _, fun h => by cases h⟩
  · rw [e2]; exact trodAll_mk1 (shut_bool Tryz.underlying4 true)
  · rw [e2]; exact trodAll_mk3 a0 a1 a2
  · rw [e2]; rfl

theorem none_holds : Rows.CandsNoneSaid :=
  OpenClaim.holds_of_wide 4 Tryz.f4 rfl rfl rfl rfl rfl rfl rfl ⟨rfl, rfl, rfl, rfl, rfl⟩ rfl rfl rfl rfl rfl (by kernel_rfl) Tryz.func4 facts4
    (of_decide_eq_true (by kernel_rfl)) (by unfold Func.isWrapper; rw [if_neg (of_decide_eq_false (by kernel_rfl))]; exact ⟨rfl, rfl⟩)
    (fun os started H enc _ => none_lifted os started H enc)
end Go.Proofs.YtebnellffbcgdaaGreatDoor
