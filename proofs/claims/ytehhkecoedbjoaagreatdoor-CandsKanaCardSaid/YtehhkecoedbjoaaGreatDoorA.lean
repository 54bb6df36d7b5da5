/-
  The tables and what is summed up, of the given program. Printed by gen_seata.py.
-/
import Derived.Test.YtehhkecoedbjoaaGreatDoorEv17
import Derived.Test.YtehhkecoedbjoaaGreatDoorShelf
set_option linter.unusedVariables false
set_option linter.unusedSimpArgs false
set_option linter.unusedSectionVars false
namespace Go.Ev
open Go Go.Proofs
noncomputable def exT : T ExtK := (((T.nil.ins 94 ExtK.noEscape).ins 370 ExtK.indexByte).ins 250 (ExtK.makeNoZero 5))
noncomputable def tau : Tab := mkTab Tryz.prog exT [79, 81, 141, 145, 168, 247, 312] 10
theorem tOk0 : Tryz.prog.funcs.toList.all (fun x => !x.body.isSome || !(x.name == "runtime.NumGoroutine")) = true := by kernel_rfl
theorem tOk1 : Tryz.prog.follows .mixedOrders = true := by kernel_rfl
theorem tOk2 : ([79, 81, 141, 145, 168, 247, 312] : List Nat).all (fun t => !Tryz.prog.stoodInHeld t && !Tryz.prog.eqGuardType Tryz.prog.depth t) = true := by kernel_rfl
theorem tauOk : TabOk Tryz.prog tau := tab_ok tOk0 tOk2 tOk1
theorem e94 : ExtFits Tryz.prog 94 .noEscape := ⟨Tryz.f94, Tryz.func94, by kernel_rfl, by kernel_rfl, by kernel_rfl, by kernel_rfl⟩
theorem e370 : ExtFits Tryz.prog 370 .indexByte := ⟨Tryz.f370, Tryz.func370, by kernel_rfl, by kernel_rfl, by kernel_rfl, by kernel_rfl⟩
theorem e250 : ExtFits Tryz.prog 250 (.makeNoZero 5) := ⟨Tryz.f250.params, 57, ⟨Tryz.f250, Tryz.func250, by kernel_rfl, by kernel_rfl, by kernel_rfl, by kernel_rfl⟩, by kernel_rfl, one_of (by kernel_rfl)⟩
theorem exOk (f : FuncId) (e : ExtK) (h : tau.ex.get f = some e) : ExtFits Tryz.prog f e := by
  replace h : ((((T.nil.ins 94 ExtK.noEscape).ins 370 ExtK.indexByte).ins 250 (ExtK.makeNoZero 5))).get f = some e := h
  rw [Ev.T.get_ins, Ev.T.get_ins, Ev.T.get_ins] at h
  by_cases h1 : f = 250
  · rw [if_pos h1] at h; cases h; subst h1; exact e250
  rw [if_neg h1] at h
  by_cases h1 : f = 370
  · rw [if_pos h1] at h; cases h; subst h1; exact e370
  rw [if_neg h1] at h
  by_cases h1 : f = 94
  · rw [if_pos h1] at h; cases h; subst h1; exact e94
  rw [if_neg h1, Ev.T.get_nil] at h; cases h
theorem so154 : SortOk Tryz.prog tau 154 141 := ⟨_, Tryz.sort154, rfl, rfl, agg_of (by kernel_rfl), by kernel_rfl⟩
theorem so189 : SortOk Tryz.prog tau 189 81 := ⟨_, Tryz.sort189, rfl, rfl, agg_of (by kernel_rfl), by kernel_rfl⟩
theorem ar273 : AsksRecover Tryz.prog 273 := ⟨Tryz.f273, _, _, _, _, _, _, _, _, _, _, _, _, _, _, _, _, _, _, _, _, Tryz.func273, by kernel_rfl, rfl, by decide, by decide, by kernel_rfl, rfl⟩
theorem ar274 : AsksRecover Tryz.prog 274 := ⟨Tryz.f274, _, _, _, _, _, _, _, _, _, _, _, _, _, _, _, _, _, _, _, _, Tryz.func274, by kernel_rfl, rfl, by decide, by decide, by kernel_rfl, rfl⟩
theorem hk8 : HookOk Tryz.prog tau (hookFull 20 3 WFull) (atC Tryz.f8 5) :=
  full_ok tauOk (by kernel_rfl) ⟨by kernel_rfl, by kernel_rfl, by kernel_rfl, by kernel_rfl, by kernel_rfl, by kernel_rfl, some_of (by kernel_rfl : (tau.ds.get 21).isSome = true), (by kernel_rfl : tau.ds.get 9 = some .string), ⟨9, 9, (by kernel_rfl : tau.ds.get 52 = some (.map 9 9)), by kernel_rfl⟩⟩
theorem hk73 : HookOk Tryz.prog tau (hookCollect tau (imgVal 7) 141 147 22 WNodes) (atC Tryz.f73 14) :=
  nodes_ok tauOk (tsl := 132) (by kernel_rfl) ⟨by kernel_rfl, by kernel_rfl, by kernel_rfl, by kernel_rfl, by kernel_rfl, by kernel_rfl⟩ (by kernel_rfl) (by kernel_rfl)
theorem hk103 : HookOk Tryz.prog tau (hookCollect tau (imgKey 5 4) 81 41 9 WSort) (atC Tryz.f103 6) :=
  hsort_ok tauOk (tsl := 35) (tc := 3) (by kernel_rfl) ⟨by kernel_rfl, by kernel_rfl, by kernel_rfl, by kernel_rfl, by kernel_rfl, by kernel_rfl, by kernel_rfl, by kernel_rfl, field_of (by kernel_rfl), size_of (by kernel_rfl)⟩ (by kernel_rfl) (by kernel_rfl)
theorem cap99 : CapFn tau 99 Tryz.f99 (regO (atC Tryz.f99 0) 0) (regO (atC Tryz.f99 1) 0) 59 57 3 1 :=
  ⟨by kernel_rfl, ⟨0, 1, rfl⟩, rfl, rfl, by kernel_rfl, by kernel_rfl, by kernel_rfl, by kernel_rfl, field_of (by kernel_rfl), ⟨5, by kernel_rfl⟩⟩
theorem hk56 : HookOk Tryz.prog tau (hookCap 5 64 65 1) (atC Tryz.f56 4) :=
  cap_ok tauOk (t3' := 3) (s0_ok tauOk exOk Tryz.codeOk) (by kernel_rfl) cap99 ⟨⟨#[59], by kernel_rfl⟩, by kernel_rfl, by decide⟩
abbrev sorts26 : List (Nat × Nat) := [(154, 141), (189, 81)]
abbrev dvs26 : List Nat := [273, 274]
noncomputable abbrev hks26 : List (Nat × Nat × HookF) := [(8, 5, hookFull 20 3 WFull), (73, 14, hookCollect tau (imgVal 7) 141 147 22 WNodes), (103, 6, hookCollect tau (imgKey 5 4) 81 41 9 WSort), (56, 4, hookCap 5 64 65 1)]
theorem cfgOk : CfgOk Tryz.prog tau sorts26 dvs26 hks26 := {
  sorts := fun p hp => by
    rcases hp with _ | ⟨_, _ | ⟨_, h⟩⟩
    · exact so154
    · exact so189
    · cases h
  dvs := fun f hf => by
    rcases hf with _ | ⟨_, _ | ⟨_, h⟩⟩
    · exact ar273
    · exact ar274
    · cases h
  hks := fun p hp => by
    rcases hp with _ | ⟨_, _ | ⟨_, _ | ⟨_, _ | ⟨_, h⟩⟩⟩⟩
    · exact ⟨_, Tryz.func8, hk8⟩
    · exact ⟨_, Tryz.func73, hk73⟩
    · exact ⟨_, Tryz.func103, hk103⟩
    · exact ⟨_, Tryz.func56, hk56⟩
    · cases h
  ex := exOk
  chk := Tryz.codeOk }
noncomputable def sums (ms : List (Nat × List Memo)) : Sums := sumsC tau sorts26 dvs26 hks26 ms
def nL : Nat := 1000000
def nF : Nat := 200
noncomputable def callM (ms : List (Nat × List Memo)) : CallF := funKK tau (sums ms) nL nF
theorem callM_ok {ms : List (Nat × List Memo)} (hM : ∀ p ∈ ms, ∀ M ∈ p.2, MemoOk Tryz.prog tau p.1 M) : CallOk Tryz.prog tau (callM ms) := by
  unfold callM sums
  have h1 : SumsOk Tryz.prog tau (sumsC tau sorts26 dvs26 hks26 ms) := @sums_ok Tryz.prog tau tauOk sorts26 dvs26 hks26 cfgOk ms hM
  exact @call_ok Tryz.prog tau tauOk _ h1 nL nF
theorem m_ok {ms : List (Nat × List Memo)} (hM : ∀ p ∈ ms, ∀ M ∈ p.2, MemoOk Tryz.prog tau p.1 M) {f : FuncId} {M : Memo} {pl : List Nat} (hu : memoRun tau (callM ms) f M pl = true) : MemoOk Tryz.prog tau f M :=
  memo_run tauOk (callM_ok hM) hu
end Go.Ev
