/-
  CandsKana: the call, whatever the text is.
-/
import Derived.Test.YtehhkecoedbjoaaGreatDoorB
import Derived.Test.YtehhkecoedbjoaaGreatDoorM11
import Derived.Test.YtehhkecoedbjoaaGreatDoorM12
import Derived.Test.YtehhkecoedbjoaaGreatDoorWD
set_option linter.unusedVariables false
set_option linter.unusedSimpArgs false
set_option linter.unusedSectionVars false
namespace Go.Proofs.YtehhkecoedbjoaaGreatDoor
open Go.RowKit Go.Shelf Go.Lib
def cellsOf : Ev.CB → Option (List Value) | .cells l _ _ _ _ => some l | _ => none
theorem first_list : cellsOf Ev.glob0 = some ((List.range 256).map fun c => Value.int .u8 (firstT c)) := by kernel_rfl
theorem accept_list : cellsOf Ev.glob1 = some ((List.range 16).flatMap fun i => [Value.int .u8 (accLo i), Value.int .u8 (accHi i)]) := by kernel_rfl
theorem accept_at : ∀ i, i < 16 → ((List.range 16).flatMap fun i => [Value.int .u8 (accLo i), Value.int .u8 (accHi i)])[2 * i]? = some (.int .u8 (accLo i)) ∧ ((List.range 16).flatMap fun i => [Value.int .u8 (accLo i), Value.int .u8 (accHi i)])[2 * i + 1]? = some (.int .u8 (accHi i))
  | 0, _ => ⟨rfl, rfl⟩
  | 1, _ => ⟨rfl, rfl⟩
  | 2, _ => ⟨rfl, rfl⟩
  | 3, _ => ⟨rfl, rfl⟩
  | 4, _ => ⟨rfl, rfl⟩
  | 5, _ => ⟨rfl, rfl⟩
  | 6, _ => ⟨rfl, rfl⟩
  | 7, _ => ⟨rfl, rfl⟩
  | 8, _ => ⟨rfl, rfl⟩
  | 9, _ => ⟨rfl, rfl⟩
  | 10, _ => ⟨rfl, rfl⟩
  | 11, _ => ⟨rfl, rfl⟩
  | 12, _ => ⟨rfl, rfl⟩
  | 13, _ => ⟨rfl, rfl⟩
  | 14, _ => ⟨rfl, rfl⟩
  | 15, _ => ⟨rfl, rfl⟩
  | n + 16, h => absurd h (by omega)
theorem cell_of {W : World} {g : Nat} {vs : List Value} {e : TypeId} (h : W.heap[g]? = some (.cells ⟨vs⟩ e)) (j : Nat) : W.cell? ⟨g, j, none⟩ = vs[j]? := by
  simp [World.cell?, h]
theorem tabs_ok {W : World} (h : Ev.GlobOk Tryz.prog W [(0, Ev.glob0), (1, Ev.glob1), (6, Ev.glob6)]) : Lib.Utf8Tabs 0 1 W := by
  obtain ⟨⟨v0, e0, h0, _, g0⟩, ⟨v1, e1, h1, _, g1⟩, _⟩ := h
  have l0 := first_list
  have l1 := accept_list
  rw [h0] at l0
  rw [h1] at l1
  cases l0
  cases l1
  refine ⟨fun c hc => ?_, fun i hi => ?_⟩
  · rw [cell_of g0, List.getElem?_map, List.getElem?_range hc]; rfl
  · rw [cell_of g1, cell_of g1]; exact accept_at i hi
theorem forms_plain : formsEs.toList.all (fun e => Ev.plainV e.key && Ev.plainV e.val) = true := by kernel_rfl
theorem forms_outs : Ev.m21.outs = [.map formsEs.toList 87] := by kernel_rfl
theorem forms25 : Tryz.Forms Ev.tau.ng := fun w hn =>
  (callsIn_wide.1 (Ev.memo_map (M := Ev.m21) (es := formsEs.toList) (ck := 87) Ev.k21 rfl rfl rfl forms_outs (fun e he => by have := List.all_eq_true.1 forms_plain e he; simpa using this) Tryz.func25 (by kernel_rfl) rfl trivial hn)).mono
    fun _ _ ⟨mb, he, h1, h2, h3, hw⟩ => ⟨mb, he, h1, h2, h3, ⟨hw.os, hw.tape, hw.out, hw.size, hw.same⟩⟩
/-- The chapter's example works in whatever world has grown out of the call's. -/
theorem works7 {W : World} (hs : W.ShapedOpen Tryz.prog) (hL : laidMet Tryz.prog Rows.candsKanaRow.laid W) (W1 : World) (hb : Below W.heap.size W W1) :
    Calls Tryz.prog 7 #[] W1 fun e W' => e = .returned (.bool true) ∧ Below W.heap.size W W' :=
  (callsIn_wide.1 (Ev.memo_true Ev.k23 rfl rfl rfl Tryz.func7 (by kernel_rfl) rfl (Ev.GlobOk.grown hb.size hb.block (globs_ok hs hL)) (Nat.le_trans (size_ok hs) hb.size))).mono
    fun _ _ ⟨he, hw⟩ => ⟨he, hb.trans ⟨hw.os, hw.tape, hw.out, hw.size, fun k hk => hw.same k (Nat.lt_of_lt_of_le hk hb.size)⟩⟩
theorem dedup_len : ∀ (l out : List ByteArray), (dedup out l).length ≤ out.length + l.length
  | [], out => by simp [dedup]
  | x :: l, out => by
    rw [dedup]
    have := dedup_len l (if Lib.containsS out x then out else out ++ [x])
    split at this
    · rename_i h; rw [if_pos h]; simp; omega
    · rename_i h; rw [if_neg h]; simp at this ⊢; omega
set_option maxHeartbeats 1000000 in
theorem kana_long {W : World} (s : ByteArray) (h : 1000 < s.size) : Calls Tryz.prog 3 #[.string s] W fun e W' => e = .returned (.bool true) ∧ Below W.heap.size W W' := by
  have h1 : (1000 : Int) < (s.size : Int) := by omega
  go_enter Tryz.func3, Tryz.ntmps3
  go_wp2
  go_ret
  exact ⟨rfl, Below.refl _ _⟩
set_option maxHeartbeats 1000000 in
theorem kana_short {W : World} (hs : W.ShapedOpen Tryz.prog) (hL : laidMet Tryz.prog Rows.candsKanaRow.laid W) (s : ByteArray) (h : ¬ 1000 < s.size) :
    Calls Tryz.prog 3 #[.string s] W fun e W' => e = .returned (.bool true) ∧ Below W.heap.size W W' := by
  have h1 : ¬ (1000 : Int) < (s.size : Int) := by omega
  have h7 := works7 hs hL
  have h5 := Tryz.kana3 forms25 s W (size_ok hs) (by omega) (tabs_ok (globs_ok hs hL))
  have h6 := fun W => Tryz.rkana4 s W (by omega)
  have hX : (dedup [] (fourK s)).length ≤ 1000000 := by
    have := dedup_len (fourK s) []
    have e : (fourK s).length = 4 := rfl
    rw [e] at this
    simp at this
    omega
  have h4 := fun Ba Bb va vb w ha hb => Tryz.same5 Ba Bb (dedup [] (fourK s)) va vb w ha hb hX
  generalize dedup [] (fourK s) = X at h4 h5 h6
  clear hs hL hX
  go_enter Tryz.func3, Tryz.ntmps3
  go_wp2_with (first
    | (go_at_call 5; refine h5.mono ?_; rintro e w1 ⟨va, rfl, ho1, hb1⟩)
    | (go_at_call 6; refine (h6 _).mono ?_; rintro e w2 ⟨vb, rfl, ho2, hb2⟩)
    | (go_at_call 4; refine (h4 _ _ _ _ _ (ownsRow_kept ho1 hb2) ho2).mono ?_; rintro e w3 ⟨rfl, hb3⟩)
    | (go_at_call 7; refine (h7 _ (hb1.trans ((hb2.trans (hb3.mono hb2.size)).mono hb1.size))).mono ?_; rintro e w4 ⟨rfl, hb4⟩))
  go_ret
  exact ⟨rfl, hb4⟩
theorem kana_calls {W : World} (hs : W.ShapedOpen Tryz.prog) (hL : laidMet Tryz.prog Rows.candsKanaRow.laid W) (s : ByteArray) :
    Calls Tryz.prog 3 #[.string s] W fun e W' => e = .returned (.bool true) ∧ Ev.Grown' W W' := by
  by_cases h : 1000 < s.size
  · exact (kana_long s h).mono fun _ _ ⟨he, hb⟩ => ⟨he, hb.size, hb.block, hb.os, hb.output, hb.tape⟩
  · exact (kana_short hs hL s h).mono fun _ _ ⟨he, hb⟩ => ⟨he, hb.size, hb.block, hb.os, hb.output, hb.tape⟩
end Go.Proofs.YtehhkecoedbjoaaGreatDoor
