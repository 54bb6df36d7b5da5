/-
  The tables and what is summed up, of the given program.
-/
import Derived.Test.YtebnellffbcgdaaGreatDoorEv17
import Derived.Test.YtebnellffbcgdaaGreatDoorShelf
set_option linter.unusedVariables false
set_option linter.unusedSimpArgs false
set_option linter.unusedSectionVars false
namespace Go.Ev
open Go Go.Proofs
noncomputable def exT : T ExtK := ((T.nil.ins 230 ExtK.noEscape).ins 343 ExtK.indexByte).ins 295 (ExtK.makeNoZero 5)
noncomputable def tau : Tab := mkTab Tryz.prog exT [67, 69, 93, 107, 155, 250, 313] 10
theorem tOk0 : Tryz.prog.funcs.toList.all (fun x => !x.body.isSome || !(x.name == "runtime.NumGoroutine")) = true := by kernel_rfl
theorem tOk1 : Tryz.prog.follows .mixedOrders = true := by kernel_rfl
theorem tOk2 : ([67, 69, 93, 107, 155, 250, 313] : List Nat).all (fun t => !Tryz.prog.stoodInHeld t && !Tryz.prog.eqGuardType Tryz.prog.depth t) = true := by kernel_rfl
theorem tauOk : TabOk Tryz.prog tau := tab_ok tOk0 tOk2 tOk1
theorem e230 : ExtFits Tryz.prog 230 .noEscape := ⟨Tryz.f230, Tryz.func230, by kernel_rfl, by kernel_rfl, by kernel_rfl, by kernel_rfl⟩
theorem e343 : ExtFits Tryz.prog 343 .indexByte := ⟨Tryz.f343, Tryz.func343, by kernel_rfl, by kernel_rfl, by kernel_rfl, by kernel_rfl⟩
theorem e295 : ExtFits Tryz.prog 295 (.makeNoZero 5) := ⟨Tryz.f295.params, 70, ⟨Tryz.f295, Tryz.func295, by kernel_rfl, by kernel_rfl, by kernel_rfl, by kernel_rfl⟩, by kernel_rfl, one_of (by kernel_rfl)⟩
theorem exOk (f : FuncId) (e : ExtK) (h : tau.ex.get f = some e) : ExtFits Tryz.prog f e := by
  replace h : (((T.nil.ins 230 ExtK.noEscape).ins 343 ExtK.indexByte).ins 295 (ExtK.makeNoZero 5)).get f = some e := h
  rw [Ev.T.get_ins, Ev.T.get_ins, Ev.T.get_ins] at h
  by_cases h1 : f = 295
  · rw [if_pos h1] at h; cases h; subst h1; exact e295
  rw [if_neg h1] at h
  by_cases h1 : f = 343
  · rw [if_pos h1] at h; cases h; subst h1; exact e343
  rw [if_neg h1] at h
  by_cases h1 : f = 230
  · rw [if_pos h1] at h; cases h; subst h1; exact e230
  rw [if_neg h1, Ev.T.get_nil] at h; cases h
theorem so157 : SortOk Tryz.prog tau 157 93 := ⟨_, Tryz.sort157, rfl, rfl, agg_of (by kernel_rfl), by kernel_rfl⟩
theorem so182 : SortOk Tryz.prog tau 182 69 := ⟨_, Tryz.sort182, rfl, rfl, agg_of (by kernel_rfl), by kernel_rfl⟩
theorem ar268 : AsksRecover Tryz.prog 268 := ⟨Tryz.f268, _, _, _, _, _, _, _, _, _, _, _, _, _, _, _, _, _, _, _, _, Tryz.func268, by kernel_rfl, rfl, by decide, by decide, by kernel_rfl, rfl⟩
theorem ar269 : AsksRecover Tryz.prog 269 := ⟨Tryz.f269, _, _, _, _, _, _, _, _, _, _, _, _, _, _, _, _, _, _, _, _, Tryz.func269, by kernel_rfl, rfl, by decide, by decide, by kernel_rfl, rfl⟩
theorem hk27 : HookOk Tryz.prog tau (hookFull 20 3 WFull) (atC Tryz.f27 5) :=
  full_ok tauOk (by kernel_rfl) ⟨by kernel_rfl, by kernel_rfl, by kernel_rfl, by kernel_rfl, by kernel_rfl, by kernel_rfl, some_of (by kernel_rfl : (tau.ds.get 21).isSome = true), (by kernel_rfl : tau.ds.get 9 = some .string), ⟨9, 9, (by kernel_rfl : tau.ds.get 157 = some (.map 9 9)), by kernel_rfl⟩⟩
theorem hk65 : HookOk Tryz.prog tau (hookCollect tau (imgVal 7) 93 147 22 WNodes) (atC Tryz.f65 14) :=
  nodes_ok tauOk (tsl := 78) (by kernel_rfl) ⟨by kernel_rfl, by kernel_rfl, by kernel_rfl, by kernel_rfl, by kernel_rfl, by kernel_rfl⟩ (by kernel_rfl) (by kernel_rfl)
theorem hk106 : HookOk Tryz.prog tau (hookCollect tau (imgKey 5 4) 69 41 9 WSort) (atC Tryz.f106 6) :=
  hsort_ok tauOk (tsl := 36) (tc := 3) (by kernel_rfl) ⟨by kernel_rfl, by kernel_rfl, by kernel_rfl, by kernel_rfl, by kernel_rfl, by kernel_rfl, by kernel_rfl, by kernel_rfl, field_of (by kernel_rfl), size_of (by kernel_rfl)⟩ (by kernel_rfl) (by kernel_rfl)
theorem cap178 : CapFn tau 178 Tryz.f178 (regO (atC Tryz.f178 0) 0) (regO (atC Tryz.f178 1) 0) 163 70 3 1 :=
  ⟨by kernel_rfl, ⟨0, 1, rfl⟩, rfl, rfl, by kernel_rfl, by kernel_rfl, by kernel_rfl, by kernel_rfl, field_of (by kernel_rfl), ⟨5, by kernel_rfl⟩⟩
theorem hk104 : HookOk Tryz.prog tau (hookCap 5 64 65 1) (atC Tryz.f104 4) :=
  cap_ok tauOk (t3' := 3) (s0_ok tauOk exOk Tryz.codeOk) (by kernel_rfl) cap178 ⟨⟨#[163], by kernel_rfl⟩, by kernel_rfl, by decide⟩
abbrev sorts26 : List (Nat × Nat) := [(157, 93), (182, 69)]
abbrev dvs26 : List Nat := [268, 269]
noncomputable abbrev hks26 : List (Nat × Nat × HookF) := [(27, 5, hookFull 20 3 WFull), (65, 14, hookCollect tau (imgVal 7) 93 147 22 WNodes), (106, 6, hookCollect tau (imgKey 5 4) 69 41 9 WSort), (104, 4, hookCap 5 64 65 1)]
theorem cfgOk : CfgOk Tryz.prog tau sorts26 dvs26 hks26 := {
  sorts := fun p hp => by
    rcases hp with _ | ⟨_, _ | ⟨_, h⟩⟩
    · exact so157
    · exact so182
    · cases h
  dvs := fun f hf => by
    rcases hf with _ | ⟨_, _ | ⟨_, h⟩⟩
    · exact ar268
    · exact ar269
    · cases h
  hks := fun p hp => by
    rcases hp with _ | ⟨_, _ | ⟨_, _ | ⟨_, _ | ⟨_, h⟩⟩⟩⟩
    · exact ⟨_, Tryz.func27, hk27⟩
    · exact ⟨_, Tryz.func65, hk65⟩
    · exact ⟨_, Tryz.func106, hk106⟩
    · exact ⟨_, Tryz.func104, hk104⟩
    · cases h
  ex := exOk
  chk := Tryz.codeOk }
noncomputable def sums (ms : List (Nat × List Memo)) : Sums := sumsC tau sorts26 dvs26 hks26 ms
def nL : Nat := 1000000
def nF : Nat := 200
noncomputable def callM (ms : List (Nat × List Memo)) : CallF := funKK tau (sums ms) nL nF
theorem callM_ok {ms : List (Nat × List Memo)} (hM : ∀ p ∈ ms, ∀ M ∈ p.2, MemoOk Tryz.prog tau p.1 M) : CallOk Tryz.prog tau (callM ms) := by
  unfold callM sums
  have h1 : SumsOk Tryz.prog tau (sumsC tau sorts26 dvs26 hks26 ms) := @sums_ok Tryz.prog tau tauOk sorts26 dvs26 hks26 cfgOk ms hM
  exact @call_ok Tryz.prog tau tauOk _ h1 nL nF
theorem m_ok {ms : List (Nat × List Memo)} (hM : ∀ p ∈ ms, ∀ M ∈ p.2, MemoOk Tryz.prog tau p.1 M) {f : FuncId} {M : Memo} {pl : List Nat} (hu : memoRun tau (callM ms) f M pl = true) : MemoOk Tryz.prog tau f M :=
  memo_run tauOk (callM_ok hM) hu
end Go.Ev
