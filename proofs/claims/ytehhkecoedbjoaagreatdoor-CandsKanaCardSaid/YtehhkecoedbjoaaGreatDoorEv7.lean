/-
  The evaluator of closed runs (a part): EvS14, EvS15, EvS16, EvS17, EvS18.
-/
import Derived.Test.YtehhkecoedbjoaaGreatDoorEv6
import Derived.Test.YtehhkecoedbjoaaGreatDoorEv1
import Derived.Laws.Externs
import Derived.Conc.MuLone
import Derived.RangeFuncCalls
import Derived.RangeFuncLeaves
import Derived.RangeFuncNested
import Derived.LoopNIn
import Derived.Scope
set_option linter.unusedVariables false
set_option linter.unusedSimpArgs false
set_option linter.unusedSectionVars false
section
/-
  Calls: what an operation hands over.
-/
namespace Go.Ev
section
variable {P : Program} {τ : Tab} {ρ : Ren} {h : Hp} {w : World}

theorem builtin_sound (T : TabOk P τ) (hk : Hkt P τ ρ h w) {b : Builtin} {ts : List TypeId} {ty : TypeId} {cs : Array Bool} {vs vs' : List Value} {u : Value} {h' : Hp} (hu : builtinB τ b ts vs h = some (u, h')) (hv : LR ρ vs vs') :
    Goes P τ ρ h w (builtin b ⟨ts⟩ ty cs ⟨vs'⟩) u h' := by
  unfold builtinB at hu
  unfold builtin
  simp only []
  split at hu
  · split at hu
    · rename_i r hr; cases hu; exact append_sound T hk ty hr hv
    · exact appendZ_sound T hk ty hu hv
  · split at hu
    · rename_i v hc; cases hu; exact ok1_of (cap_sound T ty hc hv w) hk
    · cases hu
  · exact unsafeString_sound T hk ty hu hv
  · split at hu
    · rename_i v hc; cases hu; exact unsafeSliceData_sound hk ty hc hv
    · cases hu
  · split at hu
    · rename_i v hc; cases hu; exact ok1_of (len_sound T hk ty hc hv) hk
    · cases hu
  · exact copy_sound T hk ty hu hv
  · split at hu
    · rename_i x l
      split at hu
      · rename_i v hc
        cases hu
        cases hv with | cons hx hl =>
        obtain ⟨u', h1, h2⟩ := fold_sound (P := P) (w := w) min2B Builtin.min2 (fun x y z x' y' hz hx hy w => min2_sound hz hx hy w) l _ x _ _ hc hl hx
        exact of_value hk ⟨u', by simpa [Builtin.min_] using h1, h2⟩
      · cases hu
    · cases hu
  · split at hu
    · rename_i x l
      split at hu
      · rename_i v hc
        cases hu
        cases hv with | cons hx hl =>
        obtain ⟨u', h1, h2⟩ := fold_sound (P := P) (w := w) max2B Builtin.max2 (fun x y z x' y' hz hx hy w => max2_sound hz hx hy w) l _ x _ _ hc hl hx
        exact of_value hk ⟨u', by simpa [Builtin.max_] using h1, h2⟩
      · cases hu
    · cases hu
  · split at hu
    · rename_i v hc; cases hu; exact clear_sound T hk ty hc hv
    · cases hu
  · split at hu
    · rename_i v hc; cases hu; exact delete_sound T hk ty hc hv
    · cases hu
  · cases hu

theorem method_sound (T : TabOk P τ) (hk : Hkt P τ ρ h w) {t : TypeId} {v v' r : Value} {name : String} {f : FuncId} (hm : methB τ h t v name = some (f, r)) (hv : VR ρ v v') (n : Nat) :
    ∃ r', (method (n + 1) t v' name).run P w = .ok (f, r') w ∧ VR ρ r r' := by
  unfold methB at hm
  split at hm
  case h_2 => cases hm
  rename_i i td hi hd
  split at hm
  case h_2 => cases hm
  rename_i m hfind
  replace hm := bifO hm; obtain ⟨hp, hm⟩ := hm
  have hp' : m.path = #[] := by simpa using hp
  unfold method
  simp only [Sem.run_bind, run_typeInfo (T.inf _ _ hi), Result.andThen_ok, hfind, hp', follow, Sem.run_pure]
  split at hm
  · rename_i f0 e hmf
    simp only [Option.some.injEq, Prod.mk.injEq] at hm; obtain ⟨rfl, rfl⟩ := hm
    exact ⟨v', by simp [hmf, receiverAt, run_underlying (T.ds _ _ hd), Place.get], hv⟩
  · rename_i f0 e hmf
    split at hm
    case h_2 => cases hm
    rename_i id off
    cases hv with | @ptr _ _ pl e1 =>
    split at hm
    case h_2 => cases hm
    rename_i r0 hl
    simp only [Option.some.injEq, Prod.mk.injEq] at hm; obtain ⟨rfl, rfl⟩ := hm
    obtain ⟨v', k1, k2⟩ := loadAt_hk T hk e1 hl
    refine ⟨v', ?_, k2⟩
    have hw : ∀ a b c d, (Builtin.ssaWrapNilChk_ a b #[.pointer (some ⟨pl.b, pl.o + off, none⟩), strVal c, strVal d]).run P w = .ok (.pointer (some ⟨pl.b, pl.o + off, none⟩)) w := fun a b c d => rfl
    simp [hmf, receiverAt, run_underlying (T.ds _ _ hd), Place.get, hw, asAddr, k1]
  · rename_i td1 _ _ f0 hmf hnp
    simp only [Option.some.injEq, Prod.mk.injEq] at hm; obtain ⟨rfl, rfl⟩ := hm
    refine ⟨v', ?_, hv⟩
    cases td1 <;> first
      | exact absurd rfl (hnp _)
      | simp [hmf, receiverAt, run_underlying (T.ds _ _ hd), Place.get]
  · cases hm

/-- From one state to another: the model's step and the abstract machine's. -/
structure RF (ρ : Ren) (w : World) (h : Hp) (ρ' : Ren) (w' : World) (h' : Hp) : Prop where
  stp : Stp ρ w h.nx ρ' w' h'.nx h'.lo
  af : AF h h'
theorem RF.refl (hk : Hkt P τ ρ h w) : RF ρ w h ρ w h := ⟨Stp.refl ρ w h.nx h.lo hk.1.fresh, AF.refl h⟩
theorem RF.trans {ρ1 ρ2 : Ren} {w1 w2 : World} {h1 h2 : Hp} (hk : Hkt P τ ρ h w) (a : RF ρ w h ρ1 w1 h1) (b : RF ρ1 w1 h1 ρ2 w2 h2) : RF ρ w h ρ2 w2 h2 :=
  ⟨a.stp.trans b.stp b.af.2.1 hk.1.fresh, a.af.trans b.af⟩
theorem RF.le {ρ' : Ren} {w' : World} {h' : Hp} (hk : Hkt P τ ρ h w) (r : RF ρ w h ρ' w' h') : ρ.le ρ' := r.stp.le hk.1.fresh

/-- What a piece of the model hands over: a value, a panic, a call. -/
def Ans (P : Program) (s : Sem Next) (w : World) (R : Ending → World → Prop) : Prop :=
  match s.run P w with
  | .ok (.value v) w' => R (.returned v) w'
  | .ok .skip w' => R (.returned undef) w'
  | .ok (.enter f args) w' => CallsIn Fence.wide 0 P f args w' R
  | .ok (.round l f tmps as body) w' => RoundIn Fence.wide 0 P l f tmps as body w' R
  | .halt (.panic v) w' => R (.panicked [{ v, recovered := false }]) w'
  | _ => False

/-- What is asked of an ending: the abstract machine went on, and its end is among the outs. -/
def Post (P : Program) (τ : Tab) (ρ : Ren) (w : World) (h : Hp) (k kp : Value → Hp → RR) (outs : List Out) : Ending → World → Prop
  | .returned v', w' => ∃ ρ' v h' o', VR ρ' v v' ∧ Hkt P τ ρ' h' w' ∧ RF ρ w h ρ' w' h' ∧ k v h' = some o' ∧ o' ⊆ outs
  | .panicked ch, w' => ∃ ρ' v v' h' o', ch = [{ v := v', recovered := false }] ∧ VR ρ' v v' ∧ Hkt P τ ρ' h' w' ∧ RF ρ w h ρ' w' h' ∧ kp v h' = some o' ∧ o' ⊆ outs
  | .outgrown, _ => False

/-- What a called function is, of the model. -/
def callRaw : Fn → List Value → Sem Next
  | .func f, args => callFunc f ⟨args⟩
  | .yield l, args => Instr.yield l ⟨args⟩
  | _, _ => stuck "no call"

def CallOk (P : Program) (τ : Tab) (call : CallF) : Prop :=
  ∀ (fn fn' : Fn) (args args' : List Value) (h : Hp) (k kp : Value → Hp → RR) (outs : List Out) (ρ : Ren) (w : World), Hkt P τ ρ h w → FnR ρ fn fn' → LR ρ args args' →
    call fn args h k kp = some outs → Ans P (callRaw fn' args') w (Post P τ ρ w h k kp outs)

theorem Goes.ans {s : Sem Next} {v : Value} {h' : Hp} (g : Goes P τ ρ h w s v h') (haf : AF h h') {k kp : Value → Hp → RR} {outs : List Out} (hkv : k v h' = some outs) : Ans P s w (Post P τ ρ w h k kp outs) := by
  obtain ⟨n, w', v', ρ', h1, h2, h3, h4, h5, h6⟩ := g
  unfold Ans
  rw [h1]
  rcases h2 with rfl | ⟨rfl, rfl⟩
  · exact ⟨ρ', v, h', outs, h3, h4, ⟨h5, haf⟩, hkv, fun _ hx => hx⟩
  · exact ⟨ρ', v, h', outs, h3, h4, ⟨h5, haf⟩, hkv, fun _ hx => hx⟩

theorem Ans.of_run {s s' : Sem Next} {R : Ending → World → Prop} (hs : s.run P w = s'.run P w) (h : Ans P s' w R) : Ans P s w R := by
  unfold Ans at *; rw [hs]; exact h

theorem Ans.mono {s : Sem Next} {R R' : Ending → World → Prop} (h : Ans P s w R) (hr : ∀ e w', R e w' → R' e w') : Ans P s w R' := by
  unfold Ans at *
  split at h
  · exact hr _ _ h
  · exact hr _ _ h
  · exact CallsIn.mono h hr
  · exact RoundIn.mono h hr
  · exact hr _ _ h
  · exact h.elim

theorem callMethod_sound (T : TabOk P τ) {call : CallF} (hc : CallOk P τ call) (hk : Hkt P τ ρ h w) {recv recv' : Value} {name : String} {args args' : List Value} {k kp : Value → Hp → RR} {outs : List Out}
    (hu : callMethodB τ call recv name args h k kp = some outs) (hr : VR ρ recv recv') (ha : LR ρ args args') : Ans P (callMethod recv' name ⟨args'⟩) w (Post P τ ρ w h k kp outs) := by
  unfold callMethodB at hu
  split at hu
  case h_2 => cases hu
  rename_i t v
  cases hr with | @iface _ _ v' hv =>
  split at hu
  case h_2 => cases hu
  rename_i f r hm
  obtain ⟨r', m1, m2⟩ := method_sound T hk hm hv (P.types.size + 99)
  have := hc (.func f) (.func f) (r :: args) (r' :: args') h k kp outs ρ w hk (.func f) (.cons m2 ha) hu
  refine this.of_run ?_
  have hd : P.types.size + Made.depth = P.types.size + 99 + 1 := rfl
  simp only [callMethod, Sem.run_bind, run_program, Result.andThen_ok, hd, m1, callRaw]
  congr 1
  simp

theorem callV_sound (T : TabOk P τ) {call : CallF} (hc : CallOk P τ call) (hk : Hkt P τ ρ h w) {fv fv' : Value} {args args' : List Value} {k kp : Value → Hp → RR} {outs : List Out}
    (hu : callV τ call fv args h k kp = some outs) (hr : VR ρ fv fv') (ha : LR ρ args args') :
    Ans P (do let d ← Deferred.ofValue fv' ⟨args'⟩; invoke d.target d.args) w (Post P τ ρ w h k kp outs) := by
  unfold callV at hu
  split at hu
  · rename_i f first cap
    obtain ⟨first⟩ := first
    obtain ⟨cap⟩ := cap
    cases hr with | @func _ _ _ first' _ cap' hf hfi hca =>
    cases hf
    have := hc (.func f) (.func f) _ (first' ++ args' ++ cap') h k kp outs ρ w hk (.func f) ((hfi.append ha).append hca) hu
    refine this.of_run ?_
    simp [Deferred.ofValue, invoke, callRaw]
  · rename_i l first cap
    obtain ⟨first⟩ := first
    obtain ⟨cap⟩ := cap
    cases hr with | @func _ _ _ first' _ cap' hf hfi hca =>
    cases hf with | @yield _ pl e1 =>
    have := hc (.yield l) (.yield pl.b) _ (first' ++ args') h k kp outs ρ w hk (.yield e1) (hfi.append ha) hu
    refine this.of_run ?_
    simp [Deferred.ofValue, invoke, callRaw]
  · rename_i name first cap
    obtain ⟨first⟩ := first
    obtain ⟨cap⟩ := cap
    cases hr with | @func _ _ _ first' _ cap' hf hfi hca =>
    cases hf
    split at hu
    case h_2 => cases hu
    rename_i recv rest heq
    have hl := hfi.append ha
    simp only at heq
    rw [heq] at hl
    generalize hg : first' ++ args' = all at hl
    cases hl with | @cons _ recv' _ rest' hr1 hr2 =>
    refine (callMethod_sound T hc hk hu hr1 hr2).of_run ?_
    simp [Deferred.ofValue, invoke, hg]
  · rename_i t path f pr first cap
    obtain ⟨first⟩ := first
    obtain ⟨cap⟩ := cap
    cases hr with | @func _ _ _ first' _ cap' hf hfi hca =>
    cases hf
    split at hu
    case h_2 => cases hu
    rename_i x rest heq
    replace hu := bifO hu; obtain ⟨hp, hu⟩ := hu
    have hp' : path = #[] := by simpa using hp
    have hl := hfi.append ha
    simp only at heq
    rw [heq] at hl
    generalize hg : first' ++ args' = all at hl
    cases hl with | @cons _ x' _ rest' hr1 hr2 =>
    have key : call (.func f) (x :: rest) h k kp = some outs → (receiverVia t x' path pr).run P w = .ok x' w → Ans P (do let d ← Deferred.ofValue (.func (.via t path f pr) ⟨first'⟩ ⟨cap'⟩) ⟨args'⟩; invoke d.target d.args) w (Post P τ ρ w h k kp outs) := by
      intro hu hrun
      have := hc (.func f) (.func f) (x :: rest) (x' :: rest') h k kp outs ρ w hk (.func f) (.cons hr1 hr2) hu
      refine this.of_run ?_
      simp [Deferred.ofValue, invoke, hg, hrun, callRaw]
    split at hu
    · rename_i e hd
      exact key hu (by simp [receiverVia, hp', follow, receiverAt, run_underlying (T.ds _ _ hd), Place.get])
    · cases hu
    · rename_i d hnp hd
      exact key hu (by
        simp only [receiverVia, hp', follow, receiverAt, Sem.run_bind, Sem.run_pure, Result.andThen_ok, run_underlying (T.ds _ _ hd)]
        cases d <;> first
          | exact absurd rfl (hnp _)
          | rfl)
    · cases hu
  · cases hu
end
end Go.Ev
end

section
/-
  Operations and regions whose order is the text's.
-/
namespace Go.Ev
section
variable {P : Program} {τ : Tab} {ρ : Ren} {h : Hp} {w : World}

theorem kAll_mem {k : Value → Hp → RR} : ∀ {l : List (Value × Hp)} {outs : List Out} {v : Value} {h' : Hp}, kAll k l = some outs → (v, h') ∈ l → ∃ o', k v h' = some o' ∧ o' ⊆ outs
  | [], _, _, _, _, hm => by cases hm
  | (v0, h0) :: l, outs, v, h', hk, hm => by
    simp only [kAll] at hk
    cases h1 : k v0 h0 with
    | none => rw [h1] at hk; cases kAll k l <;> simp [joinR] at hk
    | some a =>
      cases h2 : kAll k l with
      | none => rw [h1, h2] at hk; simp [joinR] at hk
      | some b =>
        rw [h1, h2] at hk
        simp [joinR] at hk; subst hk
        rcases List.mem_cons.1 hm with hm | hm
        · cases hm; exact ⟨a, h1, List.subset_append_left _ _⟩
        · obtain ⟨o', a1, a2⟩ := kAll_mem h2 hm
          exact ⟨o', a1, fun x hx => List.mem_append_right _ (a2 hx)⟩

theorem Goes.ans' {s : Sem Next} {v : Value} {h' : Hp} (g : Goes P τ ρ h w s v h') (haf : AF h h') {k kp : Value → Hp → RR} {o' outs : List Out} (hkv : k v h' = some o') (hsub : o' ⊆ outs) : Ans P s w (Post P τ ρ w h k kp outs) := by
  refine (g.ans haf hkv (kp := kp)).mono fun e w' he => ?_
  cases e with
  | returned v' => obtain ⟨ρ', v, h', o'', a, b, c, d, e⟩ := he; exact ⟨ρ', v, h', o'', a, b, c, d, fun x hx => hsub (e hx)⟩
  | panicked ch => obtain ⟨ρ', v, v', h', o'', a0, a, b, c, d, e⟩ := he; exact ⟨ρ', v, v', h', o'', a0, a, b, c, d, fun x hx => hsub (e hx)⟩
  | outgrown => exact he

theorem callB_sound (T : TabOk P τ) {call : CallF} (hc : CallOk P τ call) (hk : Hkt P τ ρ h w) {fr : Fr} {a : Act} (hf : Fok ρ fr a) {c : Call} {ty : TypeId} {k kp : Value → Hp → RR} {outs : List Out}
    (hu : callB τ call fr h c k kp = some outs) : Ans P (do let d ← resolve a.eval c ty; invoke d.target d.args) w (Post P τ ρ w h k kp outs) := by
  unfold callB at hu
  split at hu
  · cases hu
  rename_i vs hvs
  have hl := evs_sound hk hf hvs
  rw [← Array.toList_map] at hl
  split at hu
  · rename_i b hcal
    split at hu
    case h_2 => cases hu
    rename_i v h' hb
    refine Ans.of_run ?_ ((builtin_sound (ty := ty) (cs := c.args.map fun | .const _ => true | _ => false) T hk hb hl).ans (builtinB_af hb) hu)
    simp only [resolve, hcal, Sem.run_bind, Sem.run_pure, Result.andThen_ok, invoke]
    rfl
  · rename_i r name hcal
    split at hu
    case h_2 => cases hu
    rename_i recv hr
    refine Ans.of_run ?_ (callMethod_sound T hc hk hu (ev_sound hk hf hr) hl)
    simp only [resolve, hcal, Sem.run_bind, Sem.run_pure, Result.andThen_ok, invoke]
    have h1 : (#[a.eval r] ++ Array.map a.eval c.args)[0]? = some (a.eval r) := by rw [Array.getElem?_append_left (by simp)]; rfl
    have h2 : (#[a.eval r] ++ Array.map a.eval c.args).extract 1 (#[a.eval r] ++ Array.map a.eval c.args).size = ⟨(Array.map a.eval c.args).toList⟩ := by
      apply Array.ext'
      simp
      exact List.take_of_length_le (by simp)
    rw [h1, h2]
  · rename_i f hcal
    split at hu
    case h_2 => cases hu
    rename_i fv hfv
    refine Ans.of_run ?_ (callV_sound T hc hk hu (ev_sound hk hf hfv) hl)
    simp only [resolve, hcal]

theorem op_sound (T : TabOk P τ) {call : CallF} (hc : CallOk P τ call) (hk : Hkt P τ ρ h w) {fr : Fr} {a : Act} (hf : Fok ρ fr a) {o : Oper} {k kp : Value → Hp → RR} {outs : List Out}
    (hu : opK τ call fr h o.op k kp = some outs) : Ans P (execOp a.eval o) w (Post P τ ρ w h k kp outs) := by
  unfold opK at hu
  split at hu
  · rename_i c ho
    have := callB_sound T hc hk hf (ty := o.type) hu
    unfold execOp; simp only [ho]; exact this
  · rename_i it s ho
    split at hu
    case h_2 => cases hu
    rename_i v hv
    have hx := ev_sound hk hf hv
    have key : ∀ {l : List (Value × Hp)} {outs : List Out}, nextB v s h = some l → kAll k l = some outs → Ans P (execOp a.eval o) w (Post P τ ρ w h k kp outs) := by
      intro l outs hn hkl
      obtain ⟨v1, h1, hm, hg⟩ := next_sound T hk o.type hn hx
      obtain ⟨o', e1, e2⟩ := kAll_mem hkl hm
      have := hg.ans' (kp := kp) (nextB_af hn _ _ hm) e1 e2
      unfold execOp; simp only [ho]; exact this
    split at hu
    · rename_i v' h' hn
      exact key hn (by simp only [kAll, hu, joinR, List.append_nil])
    · rename_i l _ hn
      exact key hn hu
    · cases hu
  · rename_i x ho
    split at hu
    case h_2 => cases hu
    rename_i t v hv
    have hx := ev_sound hk hf hv
    unfold execOp; simp only [ho]
    generalize a.eval x = x' at hx ⊢
    have hx0 := hx
    cases hx with | @iface _ _ v' hv' =>
    have hrun : (do pure (.value (← Instr.panic (.iface t v'))) : Sem Next).run P w = .halt (.panic (.iface t v')) w := by
      simp [Instr.panic, goPanic, Sem.run, Result.andThen]
    unfold Ans
    rw [hrun]
    exact ⟨ρ, _, _, h, outs, rfl, hx0, hk, RF.refl hk, hu, fun _ hx => hx⟩
  · split at hu
    case h_2 => cases hu
    rename_i v h' hl
    exact (leaf_sound T hk hf hl).ans (leaf_af hl) hu

/-! ### frames -/
/-- The deferred calls. -/
inductive DR (ρ : Ren) : List Deferred → List Deferred → Prop
  | nil : DR ρ [] []
  | fn {f cap cap' args args' l l'} : LR ρ cap cap' → LR ρ args args' → DR ρ l l' → DR ρ ({ target := .fn (.func f) ⟨cap⟩, args := ⟨args⟩ } :: l) ({ target := .fn (.func f) ⟨cap'⟩, args := ⟨args'⟩ } :: l')
  | collected {b pl l l'} : ρ b = some pl → DR ρ l l' → DR ρ ({ target := .collected b, args := #[] } :: l) ({ target := .collected pl.b, args := #[] } :: l')
theorem DR.mono {ρ ρ' : Ren} (h : ρ.le ρ') : ∀ {l l' : List Deferred}, DR ρ l l' → DR ρ' l l'
  | _, _, .nil => .nil
  | _, _, .fn a b r => .fn (a.mono h) (b.mono h) (r.mono h)
  | _, _, .collected e r => .collected (h _ _ e) (r.mono h)

structure St (P : Program) (τ : Tab) (ρ : Ren) (fr : Fr) (h : Hp) (a : Act) (w : World) : Prop where
  hk : Hkt P τ ρ h w
  fok : Fok ρ fr a
  ds : DR ρ fr.ds a.defers

theorem TR.put {t : T Value} {sz : Nat} {a : Array Value} (hr : TR ρ t sz a) {d : Tmp} {v v' : Value} (hv : VR ρ v v') (hd : d < sz) : TR ρ (t.ins d v) sz (a.setIfInBounds d v') := by
  refine ⟨by simp [hr.1], fun i u hu => ?_⟩
  rw [T.get_ins] at hu
  by_cases hi : i = d
  · rw [if_pos hi] at hu; cases hu; subst hi
    exact ⟨v', by simp [← hr.1, hd], hv⟩
  · rw [if_neg hi] at hu
    obtain ⟨u', h1, h2⟩ := hr.2 i u hu
    exact ⟨u', by rw [Array.getElem?_setIfInBounds_ne (Ne.symm hi)]; exact h1, h2⟩

theorem set_sound {fr fr' : Fr} {a : Act} {d : Option Tmp} {v v' : Value} (hf : Fok ρ fr a) (hv : VR ρ v v') (hs : fr.set d v = some fr') : Fok ρ fr' (a.put d v') ∧ fr'.ds = fr.ds ∧ (a.put d v').defers = a.defers := by
  unfold Fr.set at hs
  cases d with
  | none => simp at hs; subst hs; exact ⟨hf, rfl, rfl⟩
  | some t =>
    simp only at hs
    replace hs := bifO hs; obtain ⟨hlt, hs⟩ := hs
    have hlt : t < fr.sz := by simpa [Nat.blt_eq] using hlt
    simp at hs; subst hs
    exact ⟨TR.put hf hv hlt, rfl, rfl⟩

/-- Which fence: a function's activation; a round's frame. -/
def Fw : Option Nat → Fence
  | none => Fence.wide
  | some l => Fence.wide.inRound l
theorem Fw_room (ro : Option Nat) (n : Nat) : (Fw ro).room n := by cases ro <;> exact room_wide n
theorem Fw_fn (ro : Option Nat) (f : FuncId) : (Fw ro).fn f := by cases ro <;> exact trivial
theorem Fw_depth (ro : Option Nat) : (Fw ro).depth = none := by cases ro <;> rfl
theorem Fw_round (ro : Option Nat) : (Fw ro).round = ro := by cases ro <;> rfl
theorem callsIn_Fw {ro : Option Nat} {f : FuncId} {args : Array Value} {R : Ending → World → Prop} (h : CallsIn Fence.wide 0 P f args w R) : CallsIn (Fw ro) 0 P f args w R := by
  cases ro with
  | none => exact h
  | some l => exact h.inRound l

theorem oper_of_ans {ro : Option Nat} {o : Oper} {a : Act} {next : Act → World → Prop} {Q : Exit → Act → World → Prop} {R : Ending → World → Prop} (h : Ans P (o.semAt ro a.eval) w R)
    (hr : ∀ v w', R (.returned v) w' → next (a.put o.dst v) w') (hp : ∀ ch w', R (.panicked ch) w' → Q (.panic ch) a w') (ho : ∀ w', R .outgrown w' → False) : o.wpIn (Fw ro) 0 P a w next Q := by
  refine ⟨fun f _ => Fw_fn ro f, ?_⟩
  rw [Fw_round]
  unfold Ans at h
  have hd : ((Fw ro).depth.isSome = true → 1 ≤ 0) := by rw [Fw_depth]; simp
  split at h
  · rename_i v w' hrun; rw [hrun]; exact hr _ _ h
  · rename_i w' hrun; rw [hrun]; exact hr _ _ h
  · rename_i f args w' hrun
    rw [hrun]
    refine ⟨hd, CallsIn.mono (callsIn_Fw h) fun e w'' he => ?_⟩
    cases e with
    | returned v => exact hr _ _ he
    | panicked ch => exact hp _ _ he
    | outgrown => exact (ho _ he).elim
  · rename_i l f tmps as body w' hrun
    rw [hrun]
    refine ⟨hd, ?_⟩
    have h' : RoundIn (Fw ro) 0 P l f tmps as body w' R := by
      cases ro with
      | none => exact h
      | some l => exact h
    refine RoundIn.mono h' fun e w'' he => ?_
    cases e with
    | returned v => exact hr _ _ he
    | panicked ch => exact hp _ _ he
    | outgrown => exact (ho _ he).elim
  · rename_i v w' hrun; rw [hrun]; exact hp _ _ h
  · exact h.elim
end
end Go.Ev
end

section
/-
  Regions in the text's order.
-/
namespace Go.Ev
section
variable {P : Program} {τ : Tab} {ρ : Ren} {h : Hp} {w : World}

/-- Where a code's walk may end. -/
def QK (P : Program) (τ : Tab) (ρ0 : Ren) (w0 : World) (h0 : Hp) (K : Kt) (outs : List Out) : Exit → Act → World → Prop := fun e a w =>
  ∃ ρ fr h o', St P τ ρ fr h a w ∧ RF ρ0 w0 h0 ρ w h ∧ o' ⊆ outs ∧ (match e with
    | .normal => K.n fr h = some o'
    | .exit id => K.x id fr h = some o'
    | .ret => K.r fr h = some o'
    | .panic ch => ∃ v v', ch = [{ v := v', recovered := false }] ∧ VR ρ v v' ∧ K.p v fr h = some o'
    | _ => False)

theorem QK.trans {ρ1 : Ren} {w1 : World} {h1 : Hp} {K : Kt} {o1 outs : List Out} (hk : Hkt P τ ρ h w) (hr : RF ρ w h ρ1 w1 h1) (ho : o1 ⊆ outs) {e : Exit} {a : Act} {w' : World} (hq : QK P τ ρ1 w1 h1 K o1 e a w') :
    QK P τ ρ w h K outs e a w' := by
  obtain ⟨ρ', fr, h', o', h1, h2, h3, h4⟩ := hq
  exact ⟨ρ', fr, h', o', h1, hr.trans hk h2, fun x hx => ho (h3 hx), h4⟩

/-- The loop that a round is of. -/
def RoR (ρ : Ren) : Option Nat → Option Nat → Prop
  | none, none => True
  | some l, some l' => ∃ pl, ρ l = some pl ∧ l' = pl.b
  | _, _ => False
theorem RoR.mono {ρ ρ' : Ren} (h : ρ.le ρ') {ro ro' : Option Nat} (r : RoR ρ ro ro') : RoR ρ' ro ro' := by
  cases ro <;> cases ro' <;> first
    | exact r
    | (obtain ⟨pl, e, rfl⟩ := r; exact ⟨pl, h _ _ e, rfl⟩)

theorem want_sound {fr : Fr} {a : Act} (hf : Fok ρ fr a) {ops : Array Oper} {g : Option (Nat × Bool)} {b : Bool} (hw : wantB fr ops.toList g = some b) (o : Oper) (ho : o.guard = g) : Region.wanted o (yielded ops a.tmps) = b := by
  unfold Region.wanted
  rw [ho]
  unfold wantB at hw
  split at hw
  · simp at hw; subst hw; rfl
  · rename_i j want
    split at hw
    case h_2 => cases hw
    rename_i oj hoj
    split at hw
    case h_2 => cases hw
    rename_i t ht
    have hd : (ops[j]?).bind (·.dst) = some t := by
      have : ops[j]? = some oj := by simpa using hoj
      rw [this]; exact ht
    simp only [yielded, hd]
    split at hw
    · rename_i b0 hb
      simp at hw; subst hw
      obtain ⟨v', h1, h2⟩ := hf.2 t _ hb
      cases h2
      simp [h1]
    · rename_i v hnb hb
      simp at hw; subst hw
      obtain ⟨v', h1, h2⟩ := hf.2 t _ hb
      have : ∀ b0, v' ≠ .bool b0 := fun b0 hh => by subst hh; cases h2; exact hnb _ rfl
      simp only [Option.bind_some, h1]
      cases v' <;> first
        | exact absurd rfl (this _)
        | rfl
    · cases hw

theorem undef_rel : VR ρ (.tuple #[]) undef := .tuple .nil

theorem LetsOut.mono' {Q Q' : Exit → Act → World → Prop} (hq : ∀ e a w, Q e a w → Q' e a w) (h : LetsOut Q) : LetsOut Q' := let ⟨a, w, q⟩ := h; ⟨a, w, hq _ _ _ q⟩
theorem oper_mono {F : Fence} {n : Nat} {o : Oper} {a : Act} {w : World} {K K' : Act → World → Prop} {Q Q' : Exit → Act → World → Prop} (hK : ∀ a w, K a w → K' a w) (hq : ∀ e a w, Q e a w → Q' e a w)
    (hh : o.wpIn F n P a w K Q) : o.wpIn F n P a w K' Q' := by
  unfold Oper.wpIn at *
  refine ⟨hh.1, ?_⟩
  have hh := hh.2
  generalize (o.semAt F.round a.eval).run P w = r at *
  cases r with
  | ok x w' =>
    cases x <;> simp only [Oper.uponIn] at hh ⊢ <;>
      first
        | exact hK _ _ hh
        | exact ⟨hh.1, CallsIn.mono hh.2 (fun e w'' he => by cases e <;> first | exact hK _ _ he | exact hq _ _ _ he | exact LetsOut.mono' hq he)⟩
        | exact ⟨hh.1, RowsIn.mono hh.2 (fun _ _ he => hK _ _ he)⟩
        | exact ⟨hh.1, RoundIn.mono hh.2 (fun e w'' he => by cases e <;> first | exact hK _ _ he | exact hq _ _ _ he | exact LetsOut.mono' hq he)⟩
  | halt x w' => cases x <;> simp only [Oper.uponIn] at hh ⊢ <;> first | exact hq _ _ _ hh | exact hh
theorem wpOpsIn_mono {F : Fence} {n : Nat} {ops : Array Oper} {Q Q' : Exit → Act → World → Prop} (hq : ∀ e a w, Q e a w → Q' e a w) : ∀ (l : List Nat) (a : Act) (w : World), wpOpsIn F n P ops Q l a w → wpOpsIn F n P ops Q' l a w
  | [], a, w, h => hq _ _ _ h
  | i :: l, a, w, h => by
    simp only [wpOpsIn] at h ⊢
    split at h
    · exact wpOpsIn_mono hq l _ _ h
    · split at h
      · rename_i hw; rw [if_pos hw]; exact oper_mono (fun a w => wpOpsIn_mono hq l a w) hq h
      · rename_i hw; rw [if_neg hw]; exact ⟨h.1, wpOpsIn_mono hq l _ _ h.2⟩

theorem reg_sound (T : TabOk P τ) {call : CallF} (hc : CallOk P τ call) {ro ro' : Option Nat} {ops : Array Oper} {K : Kt} : ∀ (l : List Oper) (i : Nat), ops.toList.drop i = l → ∀ {fr : Fr} {h : Hp} {a : Act} {w : World} {ρ : Ren} {outs : List Out},
    St P τ ρ fr h a w → RoR ρ ro ro' → regK τ call ro ops.toList K.p K.n l fr h = some outs → wpOpsIn (Fw ro') 0 P ops (QK P τ ρ w h K outs) (List.range' i (ops.size - i)) a w := by
  intro l
  induction l with
  | nil =>
    intro i hi fr h a w ρ outs st _ hu
    have hlen : ops.size - i = 0 := by
      have := congrArg List.length hi
      simp at this; omega
    rw [hlen]
    simp only [List.range'_zero, wpOpsIn]
    exact ⟨ρ, fr, h, outs, st, RF.refl st.hk, fun _ hx => hx, hu⟩
  | cons o l ih =>
    intro i hi fr h a w ρ outs st hro hu
    have hlt : i < ops.size := by
      have := congrArg List.length hi
      simp at this; omega
    have hoi : ops[i]? = some o := by
      have : (ops.toList.drop i)[0]? = some o := by rw [hi]; rfl
      simpa using this
    have hi' : ops.toList.drop (i + 1) = l := by
      have := congrArg List.tail hi
      simpa using this
    have hsz : ops.size - i = (ops.size - (i + 1)) + 1 := by omega
    rw [hsz, List.range'_succ]
    simp only [wpOpsIn, hoi]
    simp only [regK] at hu
    split at hu
    · rename_i hw
      have hwant := want_sound st.fok hw o rfl
      rw [if_pos hwant]
      unfold operK at hu
      split at hu
      · -- a call deferred
        rename_i c ho
        split at hu
        case h_2 => cases hu
        rename_i d hd hdst
        unfold deferB at hd
        split at hd
        case h_2 => cases hd
        rename_i f vs hcal hvs
        split at hd
        case h_2 => cases hd
        rename_i g first cap hg
        simp only [Option.some.injEq] at hd; subst hd
        cases ro' with
        | some l' => exact hro.elim
        | none =>
        have hl := evs_sound st.hk st.fok hvs
        have hfv := ev_sound st.hk st.fok hg
        obtain ⟨first⟩ := first
        obtain ⟨cap⟩ := cap
        generalize hfe : a.eval f = fv at hfv
        cases hfv with | @func _ _ _ first' _ cap' hf hfi hca =>
        cases hf
        refine ⟨fun f _ => Fw_fn none f, ?_⟩
        have hrun : (o.semAt (Fw none).round a.eval).run P w = .ok (.defer { target := .fn (.func g) ⟨cap'⟩, args := ⟨first' ++ c.args.toList.map a.eval⟩ }) w := by
          show (execOp a.eval o).run P w = _
          unfold execOp
          simp only [ho, resolve, hcal, hfe, Deferred.ofValue, Sem.run_bind, Sem.run_pure, Result.andThen_ok]
          congr 2
          simp
        rw [hrun]
        have st' : St P τ ρ { tm := fr.tm, sz := fr.sz, ds := { target := .fn (.func g) ⟨cap⟩, args := ⟨first ++ vs⟩ } :: fr.ds } h ({ a with defers := { target := .fn (.func g) ⟨cap'⟩, args := ⟨first' ++ c.args.toList.map a.eval⟩ } :: a.defers } : Act) w :=
          ⟨st.hk, st.fok, .fn hca (hfi.append hl) st.ds⟩
        show wpOpsIn (Fw none) 0 P ops (QK P τ ρ w h K outs) (List.range' (i + 1) (ops.size - (i + 1))) (({ a with defers := { target := .fn (.func g) ⟨cap'⟩, args := ⟨first' ++ c.args.toList.map a.eval⟩ } :: a.defers } : Act).put o.dst undef) w
        rw [hdst]
        exact ih (i + 1) hi' st' trivial hu
      · -- an operation
        rename_i hnd
        have hsem : o.semAt ro' a.eval = execOp a.eval o := Oper.semAt_eq ro' a.eval o hnd
        have hans := op_sound T hc st.hk st.fok hu
        rw [← hsem] at hans
        refine oper_of_ans hans (fun v' w' hr => ?_) (fun ch w' hr => ?_) (fun w' hr => hr)
        · obtain ⟨ρ1, v, h1, o1, k1, k2, k3, k4, k5⟩ := hr
          simp only [] at k4
          split at k4
          case h_2 => cases k4
          rename_i fr1 hset
          have hle := k3.le st.hk
          obtain ⟨s1, s2, s3⟩ := set_sound (st.fok.mono hle) k1 hset
          have st1 : St P τ ρ1 fr1 h1 (a.put o.dst v') w' := ⟨k2, s1, by rw [s2, s3]; exact st.ds.mono hle⟩
          have := ih (i + 1) hi' st1 (hro.mono hle) k4
          exact wpOpsIn_mono (fun e a w hq => QK.trans st.hk k3 k5 hq) _ _ _ this
        · obtain ⟨ρ1, v, v', h1, o1, k0, k1, k2, k3, k4, k5⟩ := hr
          exact ⟨ρ1, fr, h1, o1, ⟨k2, st.fok.mono (k3.le st.hk), st.ds.mono (k3.le st.hk)⟩, k3, k5, v, v', k0, k1, k4⟩
    · rename_i hw
      have hwant := want_sound st.fok hw o rfl
      rw [if_neg (by rw [hwant]; simp)]
      refine ⟨fun f _ => Fw_fn ro' f, ?_⟩
      split at hu
      case h_2 => cases hu
      rename_i fr1 hset
      obtain ⟨s1, s2, s3⟩ := set_sound st.fok undef_rel hset
      exact ih (i + 1) hi' ⟨st.hk, s1, by rw [s2, s3]; exact st.ds⟩ hro hu
    · cases hu
end
end Go.Ev
end

section
/-
  Code: sequences, branches, blocks, loops; ranges over functions.
-/
namespace Go.Ev
section
variable {P : Program} {τ : Tab} {ρ : Ren} {h : Hp} {w : World}

/-- Regions that draw their order: to be shown apart. -/
def DrawOk (P : Program) (τ : Tab) (call : CallF) : Prop :=
  ∀ (id : Nat) (ops : Array Oper) (K : Kt) (fr : Fr) (h : Hp) (a : Act) (w : World) (ρ : Ren) (outs : List Out) (ro' : Option Nat), Region.ok P.types ops true = true → St P τ ρ fr h a w →
    drawK τ call ops.toList (Region.before ops).toList K.n ops.toList 0 [] fr h = some outs → (Code.region id ops true).wpIn (Fw ro') 0 P (QK P τ ρ w h K outs) a w

/-- Another continuation behind a piece of code. -/
theorem QK.cont {K K' : Kt} {outs : List Out} {e : Exit} {a : Act} {w' : World} (hq : QK P τ ρ w h K outs e a w')
    (hx : K'.x = K.x) (hr : K'.r = K.r) (hp : K'.p = K.p) (hn : e ≠ .normal) : QK P τ ρ w h K' outs e a w' := by
  obtain ⟨ρ', fr, h', o', h1, h2, h3, h4⟩ := hq
  refine ⟨ρ', fr, h', o', h1, h2, h3, ?_⟩
  cases e <;> simp only [hx, hr, hp] at * <;> first
    | exact h4
    | exact absurd rfl hn

theorem heap_alloc2 (w : World) (o o' : Obj) : ((w.alloc o).alloc o').heap[w.heap.size]? = some o := by
  show ((w.heap.push o).push o')[w.heap.size]? = _
  rw [Array.getElem?_push, if_neg (by simp), Array.getElem?_push, if_pos rfl]

theorem putObj_eq {b : Nat} {o : Obj} (w : World) : (w.putObj b o) = { w with heap := w.heap.setIfInBounds b o } := rfl

/-- The end of a range over a function. -/
theorem endRange_sound {l : Nat} {pl : Pl} {K : Kt} {fr : Fr} {a : Act} {outs : List Out} {ro' : Option Nat} (st : St P τ ρ fr h a w) (e1 : ρ l = some pl) (hu : endRangeK l K fr h = some outs) :
    ∃ jump w4, (Instr.endLoop pl.b).run P w = .ok jump w4 ∧ (match jump with
      | none => QK P τ ρ w h K outs .normal a w4
      | some c => c.wpIn (Fw ro') 0 P (QK P τ ρ w h K outs) a w4) := by
  unfold endRangeK at hu
  split at hu
  case h_2 => cases hu
  rename_i st0 pend tm sz ps as body d eH
  obtain ⟨L, g1, g2, g3, g4, g5, g6, g7, g8, g9, pld, g10, g11⟩ := st.hk.1.hr _ _ _ e1 eH
  have hlt := (Array.getElem?_eq_some_iff.1 g1).1
  split at hu
  · cases hu
  rename_i hnb
  have hnb' : L.state ≠ .busy := by
    intro hh; rw [g2] at hh; exact hnb hh
  have hrun := run_endLoop (P := P) g1 hnb'
  obtain ⟨k1, k2⟩ := st.hk.write (w' := w.putObj pl.b (.loop { L with state := .exhausted })) (hb' := .loop .exhausted pend tm sz ps as body d) e1 eH rfl (by simp [World.putObj])
    (fun b hb => by show (w.heap.setIfInBounds pl.b _)[b]? = _; rw [Array.getElem?_setIfInBounds_ne (Ne.symm hb)])
    ⟨{ L with state := .exhausted }, by simp [World.putObj, hlt], rfl, g3, g4, g5, g6, g7, g8, g9, pld, g10, g11⟩ rfl rfl rfl
  have st' : St P τ ρ fr (h.put l (.loop .exhausted pend tm sz ps as body d)) a (w.putObj pl.b (.loop { L with state := .exhausted })) := ⟨k1, st.fok, st.ds⟩
  have rf : RF ρ w h ρ (w.putObj pl.b (.loop { L with state := .exhausted })) (h.put l (.loop .exhausted pend tm sz ps as body d)) := ⟨k2, AF.put _ _ _⟩
  refine ⟨_, _, hrun, ?_⟩
  generalize w.putObj pl.b (.loop { L with state := .exhausted }) = w4 at st' rf ⊢
  rw [g3]
  split at hu
  · exact ⟨ρ, fr, _, outs, st', rf, fun _ hx => hx, hu⟩
  · exact wpIn_ret ⟨ρ, fr, _, outs, st', rf, fun _ hx => hx, hu⟩
  · exact wpIn_exit ⟨ρ, fr, _, outs, st', rf, fun _ hx => hx, hu⟩
  · cases hu

theorem range_func_sound (T : TabOk P τ) {call : CallF} (hc : CallOk P τ call) {ro ro' : Option Nat} {f : Operand} {ps : Array Tmp} {as body : Code} {K : Kt} {fr : Fr} {a : Act} {outs : List Out}
    (hcr : CR P as ∧ CR P body) (st : St P τ ρ fr h a w) (hro : RoR ρ ro ro') (hu : rangeK τ call ro ps as body K fr h (ev τ fr f) = some outs) :
    (Code.rangeFunc f ps as body).wpIn (Fw ro') 0 P (QK P τ ρ w h K outs) a w := by
  unfold rangeK at hu
  split at hu
  case h_2 => cases hu
  rename_i fv hfv
  have hval := ev_sound st.hk st.fok hfv
  refine wpIn_rangeFunc fun fnid _ => ?_
  rw [Fw_round]
  -- the call, once the record lies
  have key : ∀ {ρ1 : Ren} {w1 : World} {h1 : Hp} {l : Nat} {pl : Pl} {fr1 : Fr} {a1 : Act}, Hkt P τ ρ1 h1 w1 → RF ρ w h ρ1 w1 h1 → ρ1 l = some pl → Fok ρ1 fr1 a1 → DR ρ1 fr1.ds a1.defers → a1.tmps = a.tmps → VR ρ1 fv (a.eval f) →
      callR τ call fv l h1 (fun _ h'' => endRangeK l K fr1 h'') (fun _ _ => none) = some outs →
      ∃ d w1' g args w2, (resolve a.eval (rangeCall f pl.b) 0).run P w1 = .ok d w1' ∧ (∀ f', Target.leads P w1' d.target d.args = some f' → (Fw ro').fn f') ∧ (invoke d.target d.args).run P w1' = .ok (.enter g args) w2 ∧
        CallsIn (Fw ro') 0 P g args w2 (rangePost (Fw ro') 0 P pl.b (QK P τ ρ w h K outs) a1) := by
    intro ρ1 w1 h1 l pl fr1 a1 hk1 rf1 el hf1 hd1 ht hval1 hcall
    unfold callR at hcall
    split at hcall
    case h_2 => cases hcall
    rename_i g first cap
    split at hcall
    case h_2 => cases hcall
    rename_i fn hfn
    replace hcall := bifO hcall; obtain ⟨hbs, hcall⟩ := hcall
    obtain ⟨c, hbody⟩ := Option.isSome_iff_exists.1 hbs
    obtain ⟨first⟩ := first
    obtain ⟨cap⟩ := cap
    generalize hfe : a.eval f = fv' at hval1
    cases hval1 with | @func _ _ _ first' _ cap' hf hfi hca =>
    cases hf
    have hy : VR ρ1 (.func (.yield l) #[] #[]) (.func (.yield pl.b) #[] #[]) := .func (.yield el) .nil .nil
    have hans := hc (.func g) (.func g) _ (first' ++ [.func (.yield pl.b) #[] #[]] ++ cap') h1 _ _ outs ρ1 w1 hk1 (.func g) ((hfi.append (.cons hy .nil)).append hca) hcall
    have hent : ∀ args, (callFunc g args).run P w1 = .ok (.enter g args) w1 := fun args => MuLone.run_callFunc_enter (T.fn _ _ hfn).1 ((T.fn _ _ hfn).2 hbs) hbody args w1
    unfold Ans callRaw at hans
    rw [hent] at hans
    refine ⟨{ target := .fn (.func g) ⟨cap'⟩, args := ⟨first' ++ [.func (.yield pl.b) #[] #[]]⟩ }, w1, g, ⟨first' ++ [.func (.yield pl.b) #[] #[]] ++ cap'⟩, w1, ?_, fun f' _ => Fw_fn ro' f', ?_, ?_⟩
    · simp only [resolve, rangeCall, hfe, Deferred.ofValue, Sem.run_pure]
      congr 2
      apply Array.ext'
      simp [Act.eval]
    · simp only [invoke]
      rw [hent]
      congr 2
      apply Array.ext'
      simp
    · refine CallsIn.mono (callsIn_Fw hans) fun e w'' he => ?_
      cases e with
      | returned v' =>
        obtain ⟨ρ2, v, h2, o2, b1, b2, b3, b4, b5⟩ := he
        have hle := b3.le hk1
        have st2 : St P τ ρ2 fr1 h2 a1 w'' := ⟨b2, hf1.mono hle, hd1.mono hle⟩
        obtain ⟨jump, w4, c1, c2⟩ := endRange_sound (ro' := ro') st2 (hle _ _ el) b4
        refine ⟨jump, w4, c1, ?_⟩
        have tr : ∀ e a w', QK P τ ρ2 w'' h2 K o2 e a w' → QK P τ ρ w h K outs e a w' := fun e a w' hq => QK.trans st.hk (rf1.trans st.hk b3) b5 hq
        cases jump with
        | none => exact tr _ _ _ c2
        | some c => exact wpIn_mono c2 tr
      | panicked ch => obtain ⟨_, _, _, _, _, _, _, _, _, b4, _⟩ := he; cases b4
      | outgrown => exact he.elim
  have hd0 : ((Fw ro').depth.isSome = true → 1 ≤ 0) := by rw [Fw_depth]; simp
  split at hu
  · -- outermost
    cases ro' with
    | some l' => exact hro.elim
    | none =>
    simp only [] at hu
    obtain ⟨k1, k2⟩ := st.hk.alloc (.deferred (some [])) (.dfr false) 0 (getElem?_alloc_new w _)
    have hle1 := Ren.le_upd (st.hk.1.fresh h.nx (Nat.le_refl _)) ⟨w.heap.size, 0, 0⟩
    have hf1 := st.fok.mono hle1
    have hsz1 : (w.alloc (.deferred (some []))).heap.size = w.heap.size + 1 := World.size_alloc _ _
    have hle2 := Ren.le_upd (k1.1.fresh (h.new (.dfr false)).nx (Nat.le_refl _)) ⟨(w.alloc (.deferred (some []))).heap.size, 0, 0⟩
    obtain ⟨k3, k4⟩ := k1.alloc (.loop { state := .ready, pending := none, fn := fnid, tmps := a.tmps, params := ps, assign := as, body := body, defers := w.heap.size }) (.loop .ready none fr.tm fr.sz ps.toList as body h.nx) 0
      ⟨_, getElem?_alloc_new _ _, rfl, rfl, rfl, rfl, rfl, hf1.mono hle2, hcr.1, hcr.2, _, hle2 _ _ (Ren.upd_same _ _), rfl⟩
    have rf : RF ρ w h _ _ _ := RF.trans st.hk ⟨k2, AF.new h _⟩ ⟨k4, AF.new _ _⟩
    obtain ⟨d, w1', g, args, w2, c1, c2, c3, c4⟩ := key (fr1 := match fr with | ⟨tm, sz, ds⟩ => ⟨tm, sz, { target := .collected h.nx, args := #[] } :: ds⟩)
      (a1 := { a with defers := [{ target := .collected w.heap.size, args := #[] }] ++ a.defers }) (pl := ⟨(w.alloc (.deferred (some []))).heap.size, 0, 0⟩) k3 rf (Ren.upd_same _ _)
      (by cases fr; exact hf1.mono hle2) (by cases fr; exact .collected (hle2 _ _ (Ren.upd_same _ _)) ((st.ds.mono hle1).mono hle2)) rfl ((hval.mono hle1).mono hle2) hu
    rw [hsz1] at c1 c4
    exact ⟨w.heap.size + 1, [{ target := .collected w.heap.size, args := #[] }], _, d, w1', g, args, w2, run_enterLoop_outer fnid a.tmps ps as body, c1, c2, c3, hd0, c4⟩
  · -- within a round
    rename_i l0
    cases ro' with
    | none => exact hro.elim
    | some l' =>
    obtain ⟨pl0, e0, rfl⟩ := hro
    split at hu
    case h_2 => cases hu
    rename_i st0 pend0 tm0 sz0 ps0 as0 body0 d0 eH0
    obtain ⟨L, g1, g2, g3, g4, g5, g6, g7, g8, g9, pld, g10, g11⟩ := st.hk.1.hr _ _ _ e0 eH0
    have hle1 := Ren.le_upd (st.hk.1.fresh h.nx (Nat.le_refl _)) ⟨w.heap.size, 0, 0⟩
    obtain ⟨k1, k2⟩ := st.hk.alloc (.loop { state := .ready, pending := none, fn := fnid, tmps := a.tmps, params := ps, assign := as, body := body, defers := L.defers }) (.loop .ready none fr.tm fr.sz ps.toList as body d0) 0
      ⟨_, getElem?_alloc_new _ _, rfl, rfl, rfl, rfl, rfl, st.fok.mono hle1, hcr.1, hcr.2, _, hle1 _ _ g10, g11⟩
    obtain ⟨d, w1', g, args, w2, c1, c2, c3, c4⟩ := key (fr1 := fr) (a1 := { a with defers := [] ++ a.defers }) (pl := ⟨w.heap.size, 0, 0⟩) k1 ⟨k2, AF.new _ _⟩ (Ren.upd_same _ _)
      (st.fok.mono hle1) (st.ds.mono hle1) rfl (hval.mono hle1) hu
    exact ⟨w.heap.size, [], _, d, w1', g, args, w2, run_enterLoop_inner g1 fnid a.tmps ps as body, c1, c2, c3, hd0, c4⟩
end
end Go.Ev
end

section
/-
  Every code.
-/
namespace Go.Ev
section
variable {P : Program} {τ : Tab} {ρ : Ren} {h : Hp} {w : World}

theorem stepR_scope {b : Frame} {a : Act} {k : List Item} {cs : List Frame} {c : Code} : step P (lone (b.atR a (.code (.scope c) :: k)) cs w) = .next (lone (b.atR a (.code c :: .inScope c :: k)) cs w) :=
  step_lone_go (by simp [stepG, stepG.exec, Frame.atR])
theorem stepR_inScope {b : Frame} {a : Act} {k : List Item} {cs : List Frame} {c : Code} : step P (lone (b.atR a (.inScope c :: k)) cs w) = .next (lone (b.atR a k) cs w) :=
  step_lone_go (by simp [stepG, stepG.exec, Frame.atR])
theorem wpIn_scope {F : Fence} {n : Nat} {c : Code} {Q : Exit → Act → World → Prop} {a : Act} (hq : ∀ l a w, ¬ Q (.goto l) a w) (h : c.wpIn F n P Q a w) : (Code.scope c).wpIn F n P Q a w := by
  intro b k cs hro hb hr
  have h0 : (lone (b.atR a (.code (.scope c) :: k)) cs w).fenced P F := fenced_calm hb hr rfl
  obtain ⟨e, a₁, w₁, hq1, harr⟩ := h b (.inScope c :: k) cs hro hb hr
  cases e with
  | normal => exact ⟨.normal, a₁, w₁, hq1, .head h0 stepR_scope (StepsIn.trans harr (.one (fenced_calm hb hr rfl) stepR_inScope))⟩
  | exit id =>
    have hx : exitTo id (.inScope c :: k) = exitTo id k := by simp [exitTo]
    exact ⟨.exit id, a₁, w₁, hq1, fun k' hk => .head h0 stepR_scope (harr.1 k' (by rw [hx]; exact hk)),
      fun hr' hk => let ⟨k₁, h1, h2⟩ := harr.2 hr' (by rw [hx]; exact hk); ⟨k₁, h1, .head h0 stepR_scope h2⟩⟩
  | goto l => exact absurd hq1 (hq l _ _)
  | ret => exact ⟨_, a₁, w₁, hq1, .of_steps (.one h0 stepR_scope) harr⟩
  | panic ch => exact ⟨_, a₁, w₁, hq1, .of_steps (.one h0 stepR_scope) harr⟩
  | outgrown => exact ⟨_, a₁, w₁, hq1, .of_steps (.one h0 stepR_scope) harr⟩

theorem QK.then_ {K : Kt} {n' : Fr → Hp → RR} {outs : List Out} {next : Act → World → Prop} {e : Exit} {a : Act} {w' : World}
    (hq : QK P τ ρ w h { n := n', x := K.x, r := K.r, p := K.p } outs e a w')
    (hn : ∀ ρ1 fr1 h1 o1, St P τ ρ1 fr1 h1 a w' → RF ρ w h ρ1 w' h1 → o1 ⊆ outs → n' fr1 h1 = some o1 → next a w') : Exit.then next (QK P τ ρ w h K outs) e a w' := by
  obtain ⟨ρ1, fr1, h1, o1, k1, k2, k3, k4⟩ := hq
  cases e with
  | normal => exact hn ρ1 fr1 h1 o1 k1 k2 k3 k4
  | exit id => exact ⟨ρ1, fr1, h1, o1, k1, k2, k3, k4⟩
  | goto l => exact k4.elim
  | ret => exact ⟨ρ1, fr1, h1, o1, k1, k2, k3, k4⟩
  | panic ch => exact ⟨ρ1, fr1, h1, o1, k1, k2, k3, k4⟩
  | outgrown => exact k4.elim

theorem code_sound (T : TabOk P τ) {call : CallF} (hc : CallOk P τ call) (hdr : DrawOk P τ call) (L : Nat) : ∀ (c : Code), CR P c → ∀ {ro ro' : Option Nat} {K : Kt} {fr : Fr} {h : Hp} {a : Act} {w : World} {ρ : Ren} {outs : List Out},
    St P τ ρ fr h a w → RoR ρ ro ro' → codeK τ call L ro c K fr h = some outs → c.wpIn (Fw ro') 0 P (QK P τ ρ w h K outs) a w := by
  intro c
  induction c with
  | skip => intro _ ro ro' K fr h a w ρ outs st _ hu; exact wpIn_skip ⟨ρ, fr, h, outs, st, RF.refl st.hk, fun _ hx => hx, hu⟩
  | label l => intro _ ro ro' K fr h a w ρ outs st _ hu; exact wpIn_label ⟨ρ, fr, h, outs, st, RF.refl st.hk, fun _ hx => hx, hu⟩
  | exit id => intro _ ro ro' K fr h a w ρ outs st _ hu; exact wpIn_exit ⟨ρ, fr, h, outs, st, RF.refl st.hk, fun _ hx => hx, hu⟩
  | ret => intro _ ro ro' K fr h a w ρ outs st _ hu; exact wpIn_ret ⟨ρ, fr, h, outs, st, RF.refl st.hk, fun _ hx => hx, hu⟩
  | goto l => intro _ ro ro' K fr h a w ρ outs st _ hu; cases hu
  | refuse s => intro _ ro ro' K fr h a w ρ outs st _ hu; cases hu
  | region id ops draw =>
    intro hcr ro ro' K fr h a w ρ outs st hro hu
    cases draw with
    | false =>
      have := reg_sound T hc (ops := ops) (K := K) ops.toList 0 rfl st hro hu
      exact wpIn_region (by rw [List.range_eq_range']; exact this)
    | true => exact hdr id ops K fr h a w ρ outs ro' (hcr rfl) st hu
  | seq x y ihx ihy =>
    intro hcr ro ro' K fr h a w ρ outs st hro hu
    refine wpIn_seq (wpIn_mono (ihx hcr.1 st hro hu) fun e a1 w1 hq => hq.then_ fun ρ1 fr1 h1 o1 k1 k2 k3 k4 => ?_)
    exact wpIn_mono (ihy hcr.2 k1 (hro.mono (k2.le st.hk)) k4) fun e a2 w2 hq2 => QK.trans st.hk k2 k3 hq2
  | cond cnd x y ihx ihy =>
    intro hcr ro ro' K fr h a w ρ outs st hro hu
    change condK (codeK τ call L ro x) (codeK τ call L ro y) K fr h (ev τ fr cnd) = some outs at hu
    unfold condK at hu
    split at hu
    case h_2 => cases hu
    rename_i t ht
    have hv := ev_sound st.hk st.fok ht
    have he : a.eval cnd = .bool t := by generalize a.eval cnd = v at hv; cases hv; rfl
    refine wpIn_cond he ?_
    cases t with
    | true => exact ihx hcr.1 st hro hu
    | false => exact ihy hcr.2 st hro hu
  | block id c ih =>
    intro hcr ro ro' K fr h a w ρ outs st hro hu
    refine wpIn_block (wpIn_mono (ih hcr st hro hu) fun e a1 w1 hq => ?_)
    obtain ⟨ρ1, fr1, h1, o1, k1, k2, k3, k4⟩ := hq
    cases e with
    | normal => exact ⟨ρ1, fr1, h1, o1, k1, k2, k3, k4⟩
    | exit id' =>
      simp only [Exit.inBlock]
      simp only [] at k4
      by_cases hid : id' = id
      · rw [if_pos hid]
        have : Nat.beq id' id = true := by rw [hid]; simp
        rw [this] at k4
        exact ⟨ρ1, fr1, h1, o1, k1, k2, k3, k4⟩
      · rw [if_neg hid]
        have : Nat.beq id' id = false := Bool.eq_false_iff.2 fun hh => hid (Nat.eq_of_beq_eq_true hh)
        rw [this] at k4
        exact ⟨ρ1, fr1, h1, o1, k1, k2, k3, k4⟩
    | goto l => exact k4.elim
    | ret => exact ⟨ρ1, fr1, h1, o1, k1, k2, k3, k4⟩
    | panic ch => exact ⟨ρ1, fr1, h1, o1, k1, k2, k3, k4⟩
    | outgrown => exact k4.elim
  | loop c ih =>
    intro hcr ro ro' K fr h a w ρ outs st hro hu
    change loopK (codeK τ call L ro c) L K fr h = some outs at hu
    refine wpIn_loop_rounds L ?_
    have key : ∀ n ρ1 fr1 h1 o1 a1 w1, St P τ ρ1 fr1 h1 a1 w1 → RF ρ w h ρ1 w1 h1 → o1 ⊆ outs → loopK (codeK τ call L ro c) n K fr1 h1 = some o1 → Code.roundsIn (Fw ro') 0 P c (QK P τ ρ w h K outs) n a1 w1 := by
      intro n
      induction n with
      | zero => intro ρ1 fr1 h1 o1 a1 w1 _ _ _ k4; cases k4
      | succ m ihm =>
        intro ρ1 fr1 h1 o1 a1 w1 k1 k2 k3 k4
        refine wpIn_mono (ih hcr k1 (hro.mono (k2.le st.hk)) k4) fun e a2 w2 hq => ?_
        exact (QK.trans st.hk k2 k3 hq).then_ fun ρ3 fr3 h3 o3 m1 m2 m3 m4 => ihm ρ3 fr3 h3 o3 a2 w2 m1 m2 m3 m4
    exact key L ρ fr h outs a w st (RF.refl st.hk) (fun _ hx => hx) hu
  | rangeFunc f ps as body _ _ =>
    intro hcr ro ro' K fr h a w ρ outs st hro hu
    exact range_func_sound T hc hcr st hro hu
  | scope c ih =>
    intro hcr ro ro' K fr h a w ρ outs st hro hu
    exact wpIn_scope (fun l a w hq => by obtain ⟨_, _, _, _, _, _, _, k4⟩ := hq; exact k4) (ih hcr st hro hu)
end
end Go.Ev
end
