/-
  henkanlaw26.CandsFinds: what the two functions find, walked.
-/
import Derived.Test.YtebnellffbcgdaaGreatDoorL
import Derived.Shelf.SlicesQ.IndexFunc
import Derived.Lib.SliceRun
set_option linter.unusedVariables false
set_option linter.unusedSimpArgs false
set_option linter.unusedSectionVars false
namespace Go.Proofs.YtebnellffbcgdaaGreatDoor
open Go.Shelf Go.RowKit Go.Lib Go.Proofs

def encC (x : ByteArray × Int) : List Value := [.string x.1, .int .i64 x.2]
def isText (t : ByteArray) (x : ByteArray × Int) : Bool := x.1.toList == t.toList
/-- Where the first candidate of a text is, or -1. -/
def where1 (t : ByteArray) (l : List (ByteArray × Int)) : Int := Lib.idxBy (fun _ y => isText t y) l default

/-- The closure of Find: it asks for the text that lies in the cell ⟨B, 0⟩ of its caller's. -/
theorem pred16 (t : ByteArray) (B : Nat) (w : World) (hB : B < w.heap.size) (hcell : w.cell? ⟨B, 0, none⟩ = some (.string t)) :
    PredBelow Tryz.prog 16 #[.pointer (some ⟨B, 0, none⟩)] (fun x => .agg (encC x).toArray) (isText t) w := fun W x hb => by
  have hc : W.cell? ⟨B, 0, none⟩ = some (.string t) := (hb.cell (p := ⟨B, 0, none⟩) hB).trans hcell
  have hBW : B < W.heap.size := Nat.lt_of_lt_of_le hB hb.size
  have hne : B ≠ W.heap.size := by omega
  show Calls Tryz.prog 16 #[.agg #[.string x.1, .int .i64 x.2], .pointer (some ⟨B, 0, none⟩)] W _
  go_enter Tryz.func16, Tryz.ntmps16
  go_wp2
  all_goals (go_ret; exact ⟨rfl, hb.alloc hb.size _⟩)

set_option maxHeartbeats 1000000 in
theorem find6 (b off n c : Nat) (zs : List (ByteArray × Int)) (t : ByteArray) (w : World) (hz : n ≤ zs.length) (hbig : n ≤ 9223372036854775807) (hb : b < w.heap.size)
    (hc : ∀ j, j < zs.length → w.cell? ⟨b, off + j * 2, none⟩ = some (.string zs[j]!.1) ∧ w.cell? ⟨b, off + j * 2 + 1, none⟩ = some (.int .i64 zs[j]!.2)) :
    Calls Tryz.prog 6 #[.slice (some ⟨b, off, none⟩) n c, .string t] w fun e w' => e = .returned (.int .i64 (where1 t (zs.take n))) ∧ Below w.heap.size w w' := by
  unfold where1
  have eg : ∀ args w, (callFunc 16 args).run Tryz.prog w = .ok (.enter 16 args) w := enters_of Tryz.func16 (by kernel_rfl) rfl
  have hcon := AnyQ.slices_IndexFunc Tryz.idx15 2 Tryz.isAgg51 Tryz.sizeOf51 encC (fun _ => rfl) (isText t) 16 #[.pointer (some ⟨w.heap.size, 0, none⟩)] eg b off n c zs (w.alloc (.cells #[.string t] 9))
    (pred16 t w.heap.size _ (by simp) (by simp)) hz hbig (by simp; omega) (fun j hj i v hi => by
      refine Lib.cell?_alloc_some _ ?_
      have h1 := hc j hj
      generalize zs[j]! = y at hi h1
      match i, hi with
      | 0, hi => simp [encC] at hi; rw [← hi]; exact h1.1
      | 1, hi => simp [encC] at hi; rw [← hi]; exact h1.2
      | i + 2, hi => simp [encC] at hi)
  change Calls Tryz.prog 15 _ _ _ at hcon
  clear hc
  generalize Lib.idxBy (fun _ y => isText t y) (zs.take n) default = r at hcon ⊢
  go_enter Tryz.func6, Tryz.ntmps6
  go_wp2_with (go_at_call 15; refine hcon.mono ?_; rintro e w' ⟨rfl, hb'⟩)
  go_ret
  exact ⟨rfl, ((Below.refl _ w).alloc (Nat.le_refl _) _).trans (hb'.mono (by simp))⟩

set_option maxHeartbeats 1000000 in
theorem idx15_empty (a : Option Addr) (c : Nat) (f : Value) (w : World) : Calls Tryz.prog 15 #[.slice a 0 c, f] w fun e w' => e = .returned (.int .i64 (-1)) ∧ w = w' := by
  go_enter Tryz.func15, Tryz.ntmps15
  go_wp2
  go_loop [8] (fun i => i = .int .i64 0) (fun _ => 0)
  case atStart => rfl
  case round =>
    subst hrel
    go_wp2
    go_ret
    exact ⟨rfl, rfl⟩
set_option maxHeartbeats 1000000 in
theorem find6_empty (a : Option Addr) (c : Nat) (t : ByteArray) (w : World) : Calls Tryz.prog 6 #[.slice a 0 c, .string t] w fun e w' => e = .returned (.int .i64 (-1)) ∧ Below w.heap.size w w' := by
  go_enter Tryz.func6, Tryz.ntmps6
  go_wp2_with (go_at_call 15; refine (idx15_empty _ _ _ _).mono ?_; rintro e w' ⟨rfl, rfl⟩)
  go_ret
  exact ⟨rfl, (Below.refl _ w).alloc (Nat.le_refl _) _⟩

set_option maxHeartbeats 1000000 in
theorem ref7 (b off n c : Nat) (zs : List (ByteArray × Int)) (t : ByteArray) (w : World) (hz : n ≤ zs.length) (hbig : n ≤ 9223372036854775807)
    (hc : ∀ j, j < zs.length → w.cell? ⟨b, off + j * 2, none⟩ = some (.string zs[j]!.1)) :
    Calls Tryz.prog 7 #[.slice (some ⟨b, off, none⟩) n c, .string t] w fun e w' => e = .returned (.int .i64 (where1 t (zs.take n))) ∧ w = w' := by
  unfold where1
  go_enter Tryz.func7, Tryz.ntmps7
  go_wp2
  go_loop [5] (fun i => ∃ k : Nat, k ≤ n ∧ i = .int .i64 k ∧ Aside (∀ j, j < k → isText t zs[j]! = false)) (fun i => n - (intOf i).toNat)
  case atStart => exact ⟨0, Nat.zero_le _, rfl, fun j hj => absurd hj (Nat.not_lt_zero _)⟩
  case round =>
    obtain ⟨kk, hkk, rfl, A⟩ := hrel
    by_cases hlt : kk < n
    · have hltz : (kk : Int) < (n : Int) := by omega
      have l2 := hc kk (by omega)
      clear hc
      generalize hy : zs[kk]! = y at l2
      have B : Aside (zs[kk]! = y) := hy
      clear hy
      cases hq : isText t y with
      | true =>
        have hq' : (y.1.toList == t.toList) = true := hq
        have Q : Aside (isText t y = true) := hq
        clear hq
        go_wp2
        go_ret
        refine ⟨?_, rfl⟩
        rw [Lib.idxBy_hit (fun _ y => isText t y) zs n kk default hlt hz (by show isText t zs[kk]! = true; rw [B.out]; exact Q.out) A.out]
        rfl
      | false =>
        have hq' : (y.1.toList == t.toList) = false := hq
        have Q : Aside (isText t y = false) := hq
        clear hq
        go_wp2
        go_round
        case rel =>
          refine ⟨kk + 1, by omega, by go_num, (show Aside _ from fun j hj => ?_)⟩
          by_cases e : j = kk
          · subst e
            rw [B.out]; exact Q.out
          · exact A.out j (by omega)
        case measure => simp [intOf]; omega
    · have hltz : ¬ (kk : Int) < (n : Int) := by omega
      have : kk = n := by omega
      subst this
      clear hc
      go_wp2
      go_ret
      refine ⟨?_, rfl⟩
      rw [Lib.idxBy_miss (fun _ y => isText t y) zs kk default A.out]
      rfl
set_option maxHeartbeats 1000000 in
theorem ref7_empty (a : Option Addr) (c : Nat) (t : ByteArray) (w : World) : Calls Tryz.prog 7 #[.slice a 0 c, .string t] w fun e w' => e = .returned (.int .i64 (-1)) ∧ w = w' := by
  go_enter Tryz.func7, Tryz.ntmps7
  go_wp2
  go_loop [5] (fun i => i = .int .i64 0) (fun _ => 0)
  case atStart => rfl
  case round =>
    subst hrel
    go_wp2
    go_ret
    exact ⟨rfl, rfl⟩
end Go.Proofs.YtebnellffbcgdaaGreatDoor
