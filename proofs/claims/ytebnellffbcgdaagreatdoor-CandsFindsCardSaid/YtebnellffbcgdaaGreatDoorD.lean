/-
  henkanlaw26.CandsFinds: the row.
-/
import Derived.Test.YtebnellffbcgdaaGreatDoorB
import Derived.Test.YtebnellffbcgdaaGreatDoorD0
import Derived.Test.YtebnellffbcgdaaGreatDoorM13
import Derived.Test.YtebnellffbcgdaaGreatDoorH4
import Derived.Deep.SlicePairs
import Derived.SizedLaws
import Derived.Carry
set_option linter.unusedVariables false
set_option linter.unusedSimpArgs false
set_option linter.unusedSectionVars false
namespace Go.Proofs.YtebnellffbcgdaaGreatDoor
open Go.ChangeShapes Go.WideShapes Go.ChangeAt Go.RowKit Go.Lib

/-- The chapter's example works in whatever world has grown out of the call's. -/
theorem works8 {W : World} (hs : W.ShapedOpen Tryz.prog) (hL : laidMet Tryz.prog Rows.candsKnownRow.laid W) (W1 : World) (hb : Below W.heap.size W W1) :
    Calls Tryz.prog 8 #[] W1 fun e W' => e = .returned (.bool true) ∧ Below W.heap.size W W' :=
  (callsIn_wide.1 (Ev.memo_true Ev.k23 rfl rfl rfl Tryz.func8 (by kernel_rfl) rfl (Ev.GlobOk.grown hb.size hb.block (globs_ok hs hL)) (Nat.le_trans (size_ok hs) hb.size))).mono
    fun _ _ ⟨he, hw⟩ => ⟨he, hb.trans ⟨hw.os, hw.tape, hw.out, hw.size, fun k hk => hw.same k (Nat.lt_of_lt_of_le hk hb.size)⟩⟩

set_option maxHeartbeats 1000000 in
theorem finds_long {W : World} (a : Option Addr) (n c : Nat) (t : ByteArray) (h : 200 < n) :
    Calls Tryz.prog 3 #[.slice a n c, .string t] W fun e W' => e = .returned (.bool true) ∧ Below W.heap.size W W' := by
  have h1 : (200 : Int) < (n : Int) := by omega
  go_enter Tryz.func3, Tryz.ntmps3
  go_wp2
  go_ret
  exact ⟨rfl, Below.refl _ _⟩

set_option maxHeartbeats 1000000 in
theorem finds_short {W : World} (hs : W.ShapedOpen Tryz.prog) (hL : laidMet Tryz.prog Rows.candsKnownRow.laid W) (a : Option Addr) (n c : Nat) (t : ByteArray) (h : ¬ 200 < n) (r : Int)
    (h6 : Calls Tryz.prog 6 #[.slice a n c, .string t] W fun e w' => e = .returned (.int .i64 r) ∧ Below W.heap.size W w')
    (h7 : ∀ W1, Below W.heap.size W W1 → Calls Tryz.prog 7 #[.slice a n c, .string t] W1 fun e w' => e = .returned (.int .i64 r) ∧ W1 = w') :
    Calls Tryz.prog 3 #[.slice a n c, .string t] W fun e W' => e = .returned (.bool true) ∧ Below W.heap.size W W' := by
  have h1 : ¬ (200 : Int) < (n : Int) := by omega
  have h8 := works8 hs hL
  clear hs hL
  go_enter Tryz.func3, Tryz.ntmps3
  go_wp2_with (first
    | (go_at_call 6; refine h6.mono ?_; rintro e w1 ⟨rfl, hb1⟩)
    | (go_at_call 7; refine (h7 _ hb1).mono ?_; rintro e w1' ⟨rfl, rfl⟩)
    | (go_at_call 8; refine (h8 _ hb1).mono ?_; rintro e w2 ⟨rfl, hb2⟩))
  go_ret
  exact ⟨rfl, hb2⟩

theorem finds_calls {W : World} (hs : W.ShapedOpen Tryz.prog) (hL : laidMet Tryz.prog Rows.candsKnownRow.laid W) (b off n c : Nat) (zs : List (ByteArray × Int)) (t : ByteArray) (hz : n ≤ zs.length) (hbig : n ≤ 9223372036854775807) (hb : b < W.heap.size)
    (hc : ∀ j, j < zs.length → W.cell? ⟨b, off + j * 2, none⟩ = some (.string zs[j]!.1) ∧ W.cell? ⟨b, off + j * 2 + 1, none⟩ = some (.int .i64 zs[j]!.2)) :
    Calls Tryz.prog 3 #[.slice (some ⟨b, off, none⟩) n c, .string t] W fun e W' => e = .returned (.bool true) ∧ Below W.heap.size W W' := by
  by_cases h : 200 < n
  · exact finds_long _ n c t h
  · exact finds_short hs hL _ n c t h _ (find6 b off n c zs t W hz hbig hb hc) fun W1 hb1 => ref7 b off n c zs t W1 hz hbig fun j hj => (hb1.cell (p := ⟨b, _, none⟩) hb).trans (hc j hj).1
theorem finds_empty {W : World} (hs : W.ShapedOpen Tryz.prog) (hL : laidMet Tryz.prog Rows.candsKnownRow.laid W) (a : Option Addr) (c : Nat) (t : ByteArray) :
    Calls Tryz.prog 3 #[.slice a 0 c, .string t] W fun e W' => e = .returned (.bool true) ∧ Below W.heap.size W W' :=
  finds_short hs hL a 0 c t (by omega) _ (find6_empty a c t W) fun W1 _ => ref7_empty a c t W1

theorem bytes51 : Tryz.prog.bytesOf 51 = 24 := by kernel_rfl
theorem cells51 : Tryz.prog.cellsOf 51 = 2 := by kernel_rfl
theorem cell_lt {w : World} {a : Addr} {v : Value} (h : w.cell? a = some v) : a.block < w.heap.size := by
  rcases Nat.lt_or_ge a.block w.heap.size with h1 | h1
  · exact h1
  · simp [World.cell?, Array.getElem?_eq_none h1] at h
def strOf : Value → ByteArray
  | .string s => s
  | _ => .empty
def numOfV : Value → Int
  | .int _ n => n
  | _ => 0

set_option maxRecDepth 100000 in
theorem finds_lifted (os : Os) (started : os.Started) (H : Type) (enc : TypeId × Value → H) :
    ReturnsInHanded {} Tryz.checked os 3 .any (fun w args => (Rows.candsFindsSpec.pre enc Tryz.prog Tryz.f3 [] false w args ∧ laidMetH Tryz.prog Rows.candsFindsRow.laid w) ∧ sizedMet enc Tryz.prog Tryz.f3 (OpenSpec.ofChange Rows.candsFindsSpec) false w args)
      (Rows.candsFindsSpec.post enc Tryz.prog Tryz.f3 false true false false) := by
  refine handed_and_shaped (C := Tryz.checked) (X := fun w _ => laidMetH Tryz.prog Rows.candsFindsRow.laid w) (fun _ _ _ hh h => h.of_heap hh) own started (by kernel_rfl) Tryz.func3
    (ChangeSpec.witness_at (enc := enc) (C := Tryz.checked) (os := os) (X := fun w _ => laidMetH Tryz.prog Rows.candsFindsRow.laid w) false (World.laidAll Tryz.prog os Rows.candsFindsRow.laid) #[.slice none 0 0, .string .empty] 8 (World.laidAll_os _ _ _) (by kernel_rfl) (by kernel_rfl) (by kernel_rfl) (by kernel_rfl) (by kernel_rfl) (laidWorld_met os _)) ?_
  intro W base args ds gs before hval0 hW _ hsz0 hL hs _
  have hL' : laidMet Tryz.prog Rows.candsKnownRow.laid W := by
    have h : laidMetH Tryz.prog Rows.candsKnownRow.laid W := hL
    rw [MakeChecks.laidMetH_plain _ _ _ (by kernel_rfl)] at h
    exact h
  have hsz : (DataW.weightsEach Tryz.prog (Tryz.f3.params.toList ++ Rows.candsFindsSpec.plain.varTypes Tryz.prog) (ds ++ gs)).all (· ≤ reachBytes) = true := hsz0
  clear hsz0
  have hval : ∀ (j : Nat) t v, Tryz.f3.params[j]? = some t → args[j]? = some v → Value.okWide Tryz.prog W .any base t v := hval0
  have hW' := hW
  obtain ⟨p, q, hA0, hV0, rfl, hfz, hnd⟩ := hW
  have hA : DataW.TrodAll enc Tryz.prog W 0 (fun _ => true) true Tryz.f3.params.toList args.toList ds p := hA0
  have hV : DataW.TrodVars enc Tryz.prog W (fun _ => true) [] gs q := hV0
  rw [Tryz.params3] at hA hval hsz
  obtain ⟨v0, v1, d0, d1, p0, p1, rfl, rfl, rfl, h0, h1⟩ := trodAll_two hA
  obtain ⟨rfl, rfl⟩ := trodVars_none hV
  have h1k := h1
  have h0k := h0
  obtain ⟨t, rfl, rfl, rfl, _⟩ := ChangeMaps.open_string Tryz.underlying9 (hval 1 9 v1 rfl rfl) h1
  obtain ⟨a0, len, cap, rfl⟩ := okWide_slice Tryz.underlying22 (hval 0 22 v0 rfl rfl)
  obtain ⟨fuel, hf⟩ := h0
  simp only [List.append_nil] at hW'
  have hlt : ∀ y ∈ p0, y.block < W.heap.size := fun y hy => by simpa using hW'.lt y (by simp [hy])
  have harg0 : ∀ W' : World, Below W.heap.size W W' → DataW.Trod enc Tryz.prog W' 0 (fun b => decide (b < W.heap.size)) true 22 (.slice a0 len cap) d0 p0 :=
    fun W' hn => Below.trod laidOut (by kernel_rfl) (of_decide_eq_true (by kernel_rfl)) h0k hn hlt
  have harg1 : ∀ W' : World, Below W.heap.size W W' → DataW.Trod enc Tryz.prog W' 0 (fun b => decide (b < W.heap.size)) true 9 (.string t) _ [] :=
    fun W' hn => Below.trod laidOut (by kernel_rfl) (of_decide_eq_true (by kernel_rfl)) h1k hn (fun y hy => by cases hy)
  have e2 : ∀ d1 : DataW H, Rows.candsFindsSpec.fn H ([d0, d1] ++ []) = { results := [.lit (.bool true)], args := [d0, d1] } := fun d1 => by simp [Rows.candsFindsSpec]
  have fin : ∀ (e : Ending) (W' : World), (e = .returned (.bool true) ∧ Below W.heap.size W W') → ∃ v, e = .returned v ∧ Rows.candsFindsSpec.post enc Tryz.prog Tryz.f3 false true false false W #[.slice a0 len cap, .string t] v W' := by
    rintro e W' ⟨rfl, hb⟩
    refine ⟨_, rfl, _, _, _, [], p0 ++ [], [], hW', ?_, ?_, ?_, hb.frame _, fun h => by cases h⟩
    · rw [e2]; exact trodAll_mk1 (shut_bool Tryz.underlying4 true)
    · rw [e2]; exact trodAll_mk2 (harg0 _ hb) (harg1 _ hb)
    · rw [e2]; rfl
  rcases Deep.open_slice_pairs Tryz.underlying22 Tryz.underlying51 cells51 rfl rfl (by kernel_rfl) (by kernel_rfl) hf with ⟨hcs, _⟩ | ⟨a, len', cap', m, nn, V0, V1, D0, D1, P0, P1, hcs, _, hl, hmx, hm, hx, hcell⟩
  · simp [Value.cells] at hcs
    obtain ⟨rfl, rfl, rfl⟩ := hcs
    exact (finds_empty hs hL' none 0 t).mono fin
  · simp [Value.cells] at hcs
    obtain ⟨rfl, rfl, rfl⟩ := hcs
    by_cases hz : len = 0
    · subst hz
      exact (finds_empty hs hL' _ cap t).mono fin
    have hlm : len ≤ m := by rw [hm]; split <;> omega
    obtain ⟨b, off, spot⟩ := a
    have hspot : spot = none := by
      have := (hcell 0 (by omega)).1
      simpa [Addr.add] using World.cell?_spot this
    subst hspot
    have hreach : len ≤ 9223372036854775807 := by have := hmx; unfold maxLen at this; omega
    have hv : ∀ i, i < m → V0 i = .string (strOf (V0 i)) ∧ V1 i = .int .i64 (numOfV (V1 i)) := fun i hi => by
      obtain ⟨_, _, g0, g1⟩ := hcell i hi
      obtain ⟨s, e0, _⟩ := DataW.trod_string Tryz.underlying9 g0
      obtain ⟨n, e1, _⟩ := DataW.trod_int Tryz.underlying3 g1
      have e0' : V0 i = .string s := by simpa using e0
      have e1' : V1 i = .int .i64 n := by simpa using e1
      rw [e0', e1']; exact ⟨rfl, rfl⟩
    have hget : ∀ j, j < m → ((List.range m).map fun i => (strOf (V0 i), numOfV (V1 i)))[j]! = (strOf (V0 j), numOfV (V1 j)) := fun j hj => by
      rw [getElem!_pos _ _ (by simpa using hj)]; simp
    have hbl : b < W.heap.size := by
      have := (hcell 0 (by omega)).1
      rw [add_plain] at this
      exact cell_lt this
    refine (finds_calls hs hL' b off len cap ((List.range m).map fun i => (strOf (V0 i), numOfV (V1 i))) t (by simpa using hlm) hreach hbl ?_).mono fin
    intro j hj
    have hj' : j < m := by simpa using hj
    obtain ⟨c0, c1, _, _⟩ := hcell j hj'
    rw [add_plain] at c0 c1
    rw [hget j hj', c0, ← (hv j hj').1, ← (hv j hj').2]
    exact ⟨rfl, by rw [← c1]; rfl⟩

theorem finds_holds : Rows.CandsFindsSaid :=
  OpenClaim.holds_of_wide 3 Tryz.f3 rfl rfl rfl rfl rfl rfl rfl ⟨rfl, rfl, rfl, rfl, rfl⟩ rfl rfl rfl rfl rfl (by kernel_rfl) Tryz.func3 facts3
    (of_decide_eq_true (by kernel_rfl)) (by unfold Func.isWrapper; rw [if_neg (of_decide_eq_false (by kernel_rfl))]; exact ⟨rfl, rfl⟩)
    (fun os started H enc _ => finds_lifted os started H enc)
end Go.Proofs.YtebnellffbcgdaaGreatDoor
