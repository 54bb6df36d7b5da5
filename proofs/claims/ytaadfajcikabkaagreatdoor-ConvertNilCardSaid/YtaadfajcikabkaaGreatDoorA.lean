/-
  The tables and what is summed up, of the given program. Printed by gen_seata.py.
-/
import Derived.Test.YtaadfajcikabkaaGreatDoorEv17
import Derived.Test.YtaadfajcikabkaaGreatDoorShelf
set_option linter.unusedVariables false
set_option linter.unusedSimpArgs false
set_option linter.unusedSectionVars false
namespace Go.Ev
open Go Go.Proofs
noncomputable def exT : T ExtK := (((T.nil.ins 358 ExtK.noEscape).ins 426 ExtK.indexByte).ins 396 (ExtK.makeNoZero 5))
noncomputable def tau : Tab := mkTab Tryz.prog exT [41, 46, 67, 69, 104, 123, 175, 267, 330] 10
theorem tOk0 : Tryz.prog.funcs.toList.all (fun x => !x.body.isSome || !(x.name == "runtime.NumGoroutine")) = true := by kernel_rfl
theorem tOk1 : Tryz.prog.follows .mixedOrders = true := by kernel_rfl
theorem tOk2 : ([41, 46, 67, 69, 104, 123, 175, 267, 330] : List Nat).all (fun t => !Tryz.prog.stoodInHeld t && !Tryz.prog.eqGuardType Tryz.prog.depth t) = true := by kernel_rfl
theorem tauOk : TabOk Tryz.prog tau := tab_ok tOk0 tOk2 tOk1
theorem e358 : ExtFits Tryz.prog 358 .noEscape := ⟨Tryz.f358, Tryz.func358, by kernel_rfl, by kernel_rfl, by kernel_rfl, by kernel_rfl⟩
theorem e426 : ExtFits Tryz.prog 426 .indexByte := ⟨Tryz.f426, Tryz.func426, by kernel_rfl, by kernel_rfl, by kernel_rfl, by kernel_rfl⟩
theorem e396 : ExtFits Tryz.prog 396 (.makeNoZero 5) := ⟨Tryz.f396.params, 97, ⟨Tryz.f396, Tryz.func396, by kernel_rfl, by kernel_rfl, by kernel_rfl, by kernel_rfl⟩, by kernel_rfl, one_of (by kernel_rfl)⟩
theorem exOk (f : FuncId) (e : ExtK) (h : tau.ex.get f = some e) : ExtFits Tryz.prog f e := by
  replace h : ((((T.nil.ins 358 ExtK.noEscape).ins 426 ExtK.indexByte).ins 396 (ExtK.makeNoZero 5))).get f = some e := h
  rw [Ev.T.get_ins, Ev.T.get_ins, Ev.T.get_ins] at h
  by_cases h1 : f = 396
  · rw [if_pos h1] at h; cases h; subst h1; exact e396
  rw [if_neg h1] at h
  by_cases h1 : f = 426
  · rw [if_pos h1] at h; cases h; subst h1; exact e426
  rw [if_neg h1] at h
  by_cases h1 : f = 358
  · rw [if_pos h1] at h; cases h; subst h1; exact e358
  rw [if_neg h1, Ev.T.get_nil] at h; cases h
theorem so87 : SortOk Tryz.prog tau 87 104 := ⟨_, Tryz.sort87, rfl, rfl, agg_of (by kernel_rfl), by kernel_rfl⟩
theorem so175 : SortOk Tryz.prog tau 175 69 := ⟨_, Tryz.sort175, rfl, rfl, agg_of (by kernel_rfl), by kernel_rfl⟩
theorem ar290 : AsksRecover Tryz.prog 290 := ⟨Tryz.f290, _, _, _, _, _, _, _, _, _, _, _, _, _, _, _, _, _, _, _, _, Tryz.func290, by kernel_rfl, rfl, by decide, by decide, by kernel_rfl, rfl⟩
theorem ar291 : AsksRecover Tryz.prog 291 := ⟨Tryz.f291, _, _, _, _, _, _, _, _, _, _, _, _, _, _, _, _, _, _, _, _, Tryz.func291, by kernel_rfl, rfl, by decide, by decide, by kernel_rfl, rfl⟩
theorem hk157 : HookOk Tryz.prog tau (hookFull 20 3 WFull) (atC Tryz.f157 5) :=
  full_ok tauOk (by kernel_rfl) ⟨by kernel_rfl, by kernel_rfl, by kernel_rfl, by kernel_rfl, by kernel_rfl, by kernel_rfl, some_of (by kernel_rfl : (tau.ds.get 21).isSome = true), (by kernel_rfl : tau.ds.get 9 = some .string), ⟨9, 9, (by kernel_rfl : tau.ds.get 392 = some (.map 9 9)), by kernel_rfl⟩⟩
theorem hk48 : HookOk Tryz.prog tau (hookCollect tau (imgVal 7) 104 147 22 WNodes) (atC Tryz.f48 14) :=
  nodes_ok tauOk (tsl := 70) (by kernel_rfl) ⟨by kernel_rfl, by kernel_rfl, by kernel_rfl, by kernel_rfl, by kernel_rfl, by kernel_rfl⟩ (by kernel_rfl) (by kernel_rfl)
theorem hk90 : HookOk Tryz.prog tau (hookCollect tau (imgKey 5 4) 69 41 9 WSort) (atC Tryz.f90 6) :=
  hsort_ok tauOk (tsl := 28) (tc := 3) (by kernel_rfl) ⟨by kernel_rfl, by kernel_rfl, by kernel_rfl, by kernel_rfl, by kernel_rfl, by kernel_rfl, by kernel_rfl, by kernel_rfl, field_of (by kernel_rfl), size_of (by kernel_rfl)⟩ (by kernel_rfl) (by kernel_rfl)
theorem cap321 : CapFn tau 321 Tryz.f321 (regO (atC Tryz.f321 0) 0) (regO (atC Tryz.f321 1) 0) 361 97 3 1 :=
  ⟨by kernel_rfl, ⟨0, 1, rfl⟩, rfl, rfl, by kernel_rfl, by kernel_rfl, by kernel_rfl, by kernel_rfl, field_of (by kernel_rfl), ⟨5, by kernel_rfl⟩⟩
theorem hk248 : HookOk Tryz.prog tau (hookCap 5 64 65 1) (atC Tryz.f248 4) :=
  cap_ok tauOk (t3' := 3) (s0_ok tauOk exOk Tryz.codeOk) (by kernel_rfl) cap321 ⟨⟨#[361], by kernel_rfl⟩, by kernel_rfl, by decide⟩
abbrev sorts26 : List (Nat × Nat) := [(87, 104), (175, 69)]
abbrev dvs26 : List Nat := [290, 291]
noncomputable abbrev hks26 : List (Nat × Nat × HookF) := [(157, 5, hookFull 20 3 WFull), (48, 14, hookCollect tau (imgVal 7) 104 147 22 WNodes), (90, 6, hookCollect tau (imgKey 5 4) 69 41 9 WSort), (248, 4, hookCap 5 64 65 1)]
theorem cfgOk : CfgOk Tryz.prog tau sorts26 dvs26 hks26 := {
  sorts := fun p hp => by
    rcases hp with _ | ⟨_, _ | ⟨_, h⟩⟩
    · exact so87
    · exact so175
    · cases h
  dvs := fun f hf => by
    rcases hf with _ | ⟨_, _ | ⟨_, h⟩⟩
    · exact ar290
    · exact ar291
    · cases h
  hks := fun p hp => by
    rcases hp with _ | ⟨_, _ | ⟨_, _ | ⟨_, _ | ⟨_, h⟩⟩⟩⟩
    · exact ⟨_, Tryz.func157, hk157⟩
    · exact ⟨_, Tryz.func48, hk48⟩
    · exact ⟨_, Tryz.func90, hk90⟩
    · exact ⟨_, Tryz.func248, hk248⟩
    · cases h
  ex := exOk
  chk := Tryz.codeOk }
noncomputable def sums (ms : List (Nat × List Memo)) : Sums := sumsC tau sorts26 dvs26 hks26 ms
def nL : Nat := 1000000
def nF : Nat := 200
noncomputable def callM (ms : List (Nat × List Memo)) : CallF := funKK tau (sums ms) nL nF
theorem callM_ok {ms : List (Nat × List Memo)} (hM : ∀ p ∈ ms, ∀ M ∈ p.2, MemoOk Tryz.prog tau p.1 M) : CallOk Tryz.prog tau (callM ms) := by
  unfold callM sums
  have h1 : SumsOk Tryz.prog tau (sumsC tau sorts26 dvs26 hks26 ms) := @sums_ok Tryz.prog tau tauOk sorts26 dvs26 hks26 cfgOk ms hM
  exact @call_ok Tryz.prog tau tauOk _ h1 nL nF
theorem m_ok {ms : List (Nat × List Memo)} (hM : ∀ p ∈ ms, ∀ M ∈ p.2, MemoOk Tryz.prog tau p.1 M) {f : FuncId} {M : Memo} {pl : List Nat} (hu : memoRun tau (callM ms) f M pl = true) : MemoOk Tryz.prog tau f M :=
  memo_run tauOk (callM_ok hM) hu
end Go.Ev
