/-
  The evaluator of closed runs (a part): EvS19, EvS20, EvS21.
-/
import Derived.Test.YtehhkecoedbjoaaGreatDoorEv7
set_option linter.unusedVariables false
set_option linter.unusedSimpArgs false
set_option linter.unusedSectionVars false
section
/-
  Functions.
-/
namespace Go.Ev
section
variable {P : Program} {τ : Tab} {ρ : Ren} {h : Hp} {w : World}

/-! ### rounds -/
theorem laidAt_sound : ∀ (ps : List Tmp) (args args' : List Value) (sz : Nat) (t t' : T Value) (A : Array Value), laidAt sz ps args t = some t' → LR ρ args args' → TR ρ t sz A →
    ps.length = args'.length ∧ TR ρ t' sz ((ps.zip args').foldl (fun tmps (p : Tmp × Value) => tmps.setIfInBounds p.1 p.2) A) := by
  intro ps
  induction ps with
  | nil =>
    intro args args' sz t t' A hu hl ht
    cases args with
    | nil => cases hl; simp [laidAt] at hu; subst hu; exact ⟨rfl, ht⟩
    | cons v vs => simp [laidAt] at hu
  | cons p ps ih =>
    intro args args' sz t t' A hu hl ht
    cases args with
    | nil => simp [laidAt] at hu
    | cons v vs =>
      cases hl with | cons hv hl =>
      simp only [laidAt] at hu
      replace hu := bifO hu; obtain ⟨hlt, hu⟩ := hu
      have hlt : p < sz := by simpa [Nat.blt_eq] using hlt
      obtain ⟨h1, h2⟩ := ih vs _ sz _ t' _ hu hl (ht.put hv hlt)
      exact ⟨by simp [h1], h2⟩

theorem setLoop_sound (hk : Hkt P τ ρ h w) {l : Nat} {pl : Pl} {st : LoopState} {pend : Option Code} {h' : Hp} (e1 : ρ l = some pl) (hu : setLoop h l st pend = some h') :
    ∃ L, w.heap[pl.b]? = some (.loop L) ∧ Hkt P τ ρ h' (w.putObj pl.b (.loop { L with state := st, pending := pend })) ∧ RF ρ w h ρ (w.putObj pl.b (.loop { L with state := st, pending := pend })) h' := by
  unfold setLoop at hu
  split at hu
  case h_2 => cases hu
  rename_i st0 pend0 tm sz ps as body d eH
  simp only [Option.some.injEq] at hu; subst hu
  obtain ⟨L, g1, g2, g3, g4, g5, g6, g7, g8, g9, pld, g10, g11⟩ := hk.1.hr _ _ _ e1 eH
  have hlt := (Array.getElem?_eq_some_iff.1 g1).1
  obtain ⟨k1, k2⟩ := hk.write (w' := w.putObj pl.b (.loop { L with state := st, pending := pend })) (hb' := .loop st pend tm sz ps as body d) e1 eH rfl (by simp [World.putObj])
    (fun b hb => by show (w.heap.setIfInBounds pl.b _)[b]? = _; rw [Array.getElem?_setIfInBounds_ne (Ne.symm hb)])
    ⟨{ L with state := st, pending := pend }, by simp [World.putObj, hlt], rfl, rfl, g4, g5, g6, g7, g8, g9, pld, g10, g11⟩ rfl rfl rfl
  exact ⟨L, g1, k1, k2, AF.put _ _ _⟩

theorem round_sound (T : TabOk P τ) {call : CallF} (hc : CallOk P τ call) (hdr : DrawOk P τ call) (L : Nat) (hk : Hkt P τ ρ h w) {l : Nat} {pl : Pl} {args args' : List Value} {k kp : Value → Hp → RR} {outs : List Out}
    (e1 : ρ l = some pl) (hl : LR ρ args args') (hu : roundK τ call L l args h k = some outs) : Ans P (Instr.yield pl.b ⟨args'⟩) w (Post P τ ρ w h k kp outs) := by
  unfold roundK at hu
  split at hu
  case h_2 => cases hu
  rename_i st0 pend0 tm sz ps as body d eH
  split at hu
  case h_2 => cases hu
  rename_i tm' hlaid
  obtain ⟨Lp, g1, g2, g3, g4, g5, g6, g7, g8, g9, pld, g10, g11⟩ := hk.1.hr _ _ _ e1 eH
  obtain ⟨q1, q2⟩ := laidAt_sound ps args args' sz tm tm' Lp.tmps hlaid hl g7
  have hsz : (⟨args'⟩ : Array Value).size = Lp.params.size := by
    have : Lp.params.size = ps.length := by rw [← g4]; simp
    rw [this, q1]; rfl
  have hfold : (Lp.params.zip (⟨args'⟩ : Array Value)).foldl (fun tmps (t, a) => tmps.setIfInBounds t a) Lp.tmps = (ps.zip args').foldl (fun tmps (p : Tmp × Value) => tmps.setIfInBounds p.1 p.2) Lp.tmps := by
    rw [← Array.foldl_toList, Array.toList_zip, g4]
  unfold Ans
  rw [run_yield g1 hsz, hfold, g5, g6]
  refine roundIn_of_wpIn trivial ?_
  have st0 : St P τ ρ { tm := tm', sz := sz, ds := [] } h { tmps := (ps.zip args').foldl (fun tmps (p : Tmp × Value) => tmps.setIfInBounds p.1 p.2) Lp.tmps, defers := [] } w := ⟨hk, q2, .nil⟩
  have hF : Fence.wide.inRound pl.b = Fw (some pl.b) := rfl
  rw [hF]
  have hro : RoR ρ (some l) (some pl.b) := ⟨pl, e1, rfl⟩
  refine wpIn_mono (code_sound T hc hdr L as g8 st0 hro hu) fun e a1 w1 hq => ?_
  obtain ⟨ρ1, fr1, h1, o1, k1, k2, k3, k4⟩ := hq
  cases e with
  | exit id => cases k4
  | goto l => exact k4.elim
  | ret => cases k4
  | panic ch => obtain ⟨_, _, _, _, k4⟩ := k4; cases k4
  | outgrown => exact k4.elim
  | normal =>
    simp only [] at k4
    split at k4
    case h_2 => cases k4
    rename_i tm2 sz2 ps2 as2 body2 d2 hds eH2
    have hle1 := k2.le hk
    split at k4
    case h_2 => cases k4
    rename_i h2 hset
    obtain ⟨L1, m1, m2, m3⟩ := setLoop_sound k1.hk (hle1 _ _ e1) hset
    obtain ⟨L1', m1', r2, r3, _⟩ := k1.hk.1.hr _ _ _ (hle1 _ _ e1) eH2
    have hLL : L1 = L1' := by rw [m1] at m1'; cases m1'; rfl
    have hbr : (Instr.beginRound pl.b).run P w1 = .ok () (w1.putObj pl.b (.loop { L1 with state := .busy, pending := none })) := by
      have := run_beginRound (P := P) m1 (by rw [hLL]; exact r2)
      rw [this]
      have : L1.pending = none := by rw [hLL]; exact r3
      rw [← this]
    refine ⟨_, hbr, ?_⟩
    have st2 : St P τ ρ1 fr1 h2 a1 (w1.putObj pl.b (.loop { L1 with state := .busy, pending := none })) := ⟨m2, k1.fok, k1.ds⟩
    have rf2 := k2.trans hk m3
    refine wpIn_mono (code_sound T hc hdr L body g9 st2 (hro.mono hle1) k4) fun e a2 w2 hq2 => ?_
    obtain ⟨ρ3, fr3, h3, o3, n1, n2, n3, n4⟩ := hq2
    have rf3 := rf2.trans hk n2
    have fin : ∀ pend, endRound l pend k fr3 h3 = some o3 → ∃ v w', (Instr.endRound pl.b pend).run P w2 = .ok v w' ∧ Post P τ ρ w h k kp outs (.returned v) w' := by
      intro pend hend
      unfold endRound at hend
      split at hend
      case h_2 => cases hend
      rename_i h4 hds4 hset4
      have hle3 := n2.le m2
      obtain ⟨L4, p1, p2, p3⟩ := setLoop_sound n1.hk (hle3 _ _ (hle1 _ _ e1)) hset4
      refine ⟨_, _, run_endRound pend p1, ρ3, .bool pend.isNone, h4, o3, .bool _, ?_, ?_, hend, fun x hx => k3 (n3 hx)⟩
      · cases pend <;> exact p2
      · cases pend <;> exact rf3.trans hk p3
    cases e with
    | normal => exact fin none n4
    | exit id => exact fin (some (.exit id)) n4
    | ret => exact fin (some .ret) n4
    | goto l => exact n4.elim
    | panic ch => obtain ⟨_, _, _, _, n4⟩ := n4; cases n4
    | outgrown => exact n4.elim

/-! ### a function's end -/
theorem res_sound (T : TabOk P τ) (hk : Hkt P τ ρ h w) {fr : Fr} {a : Act} (hf : Fok ρ fr a) : ∀ (rs : List ResultVar) (vs : List Value), resB τ fr h rs = some vs →
    ∃ vs', LR ρ vs vs' ∧ (rs.mapM fun | .tmp t => pure (a.tmps.getD t undef) | .cell c t => do loadVar t (← asAddr (a.tmps.getD c undef)) : Sem (List Value)).run P w = .ok vs' w
  | [], vs, hu => by simp [resB] at hu; subst hu; exact ⟨[], .nil, by simp⟩
  | .tmp t :: rs, vs, hu => by
    simp only [resB] at hu
    split at hu
    case h_2 => cases hu
    rename_i v vs0 h1 h2
    simp at hu; subst hu
    obtain ⟨v', a1, a2⟩ := hf.2 _ _ h1
    obtain ⟨vs', b1, b2⟩ := res_sound T hk hf rs vs0 h2
    refine ⟨v' :: vs', .cons a2 b1, ?_⟩
    have : a.tmps.getD t undef = v' := by simp [Array.getD_eq_getD_getElem?, a1]
    simp only [List.mapM_cons, Sem.run_bind, Sem.run_pure, Result.andThen_ok, b2, this]
  | .cell c t :: rs, vs, hu => by
    simp only [resB] at hu
    split at hu
    case h_2 => cases hu
    rename_i id off h1
    split at hu
    case h_2 => cases hu
    rename_i v vs0 h2 h3
    simp at hu; subst hu
    obtain ⟨v', a1, a2⟩ := hf.2 _ _ h1
    cases a2 with | @ptr _ _ pl e1 =>
    obtain ⟨u', c1, c2⟩ := loadAt_hk T hk e1 h2
    obtain ⟨vs', b1, b2⟩ := res_sound T hk hf rs vs0 h3
    refine ⟨u' :: vs', .cons c2 b1, ?_⟩
    have : a.tmps.getD c undef = .pointer (some ⟨pl.b, pl.o + off, none⟩) := by simp [Array.getD_eq_getD_getElem?, a1]
    have hA : ∀ x : Addr, asAddr (.pointer (some x)) = pure x := fun _ => rfl
    simp only [List.mapM_cons, Sem.run_bind, Result.andThen_ok, this, hA, Sem.run_pure, c1, b2]

theorem results_sound (T : TabOk P τ) (hk : Hkt P τ ρ h w) {fr : Fr} {a : Act} (hf : Fok ρ fr a) {fn : Func} {vs : List Value} (hu : resB τ fr h fn.results.toList = some vs) :
    ∃ v', (results fn a.tmps).run P w = .ok v' w ∧ VR ρ (tupV vs) v' := by
  obtain ⟨vs', h1, h2⟩ := res_sound T hk hf _ _ hu
  refine ⟨(if h : (⟨vs'⟩ : Array Value).size = 1 then (⟨vs'⟩ : Array Value)[0] else .tuple ⟨vs'⟩), ?_, ?_⟩
  · unfold results
    rw [Array.mapM_eq_mapM_toList]
    simp only [map_eq_pure_bind, bind_assoc, pure_bind, Sem.run_bind]
    refine (andThen_of_ok h2 _).trans ?_
    simp only [Sem.run_pure]
  · cases h1 with
    | nil => exact .tuple .nil
    | cons a r =>
      cases r with
      | nil => exact a
      | cons b r => exact .tuple (.cons a (.cons b r))

/-- Deferred functions that are summed up: entered at a return, they leave. -/
def DvOk (P : Program) (τ : Tab) (dv : FuncId → Option (List Value → Hp → Option Hp)) : Prop :=
  ∀ f g, dv f = some g → ∀ (args args' : List Value) (h h' : Hp) (ρ : Ren) (w : World), Hkt P τ ρ h w → LR ρ args args' → g args h = some h' →
    (callFunc f ⟨args'⟩).run P w = .ok (.enter f ⟨args'⟩) w ∧
    CallsDIn Fence.wide 0 P f ⟨args'⟩ .returning w fun e u' w' => (∃ v, e = .returned v) ∧ settle u' = .returning ∧ ∃ ρ', Hkt P τ ρ' h' w' ∧ RF ρ w h ρ' w' h'

theorem end_sound (T : TabOk P τ) {dv : FuncId → Option (List Value → Hp → Option Hp)} (hdv : DvOk P τ dv) {fn : Func} {fr : Fr} {k kp : Value → Hp → RR} {outs : List Out} {ρ0 : Ren} {w0 : World} {h0 : Hp} (hk0 : Hkt P τ ρ0 h0 w0) :
    ∀ (ds ds' : List Deferred) {h : Hp} {a : Act} {w : World} {ρ : Ren} {o' : List Out}, Hkt P τ ρ h w → Fok ρ fr a → DR ρ ds ds' → RF ρ0 w0 h0 ρ w h → o' ⊆ outs → endK τ dv fn.results.toList fr k ds h = some o' →
      LeavesInM Fence.wide 0 P fn a.tmps (Post P τ ρ0 w0 h0 k kp outs) ds' .returning w := by
  intro ds
  induction ds with
  | nil =>
    intro ds' h a w ρ o' hk hf hd hr ho hu
    cases hd
    simp only [endK] at hu
    split at hu
    case h_2 => cases hu
    rename_i vs hvs
    obtain ⟨v', h1, h2⟩ := results_sound T hk hf hvs
    exact ⟨v', h1, ρ, tupV vs, h, o', h2, hk, hr, hu, ho⟩
  | cons d ds ih =>
    intro ds' h a w ρ o' hk hf hd hr ho hu
    cases hd with
    | @fn f cap cap' args args' _ l' hca har hrest =>
      simp only [endK] at hu
      split at hu
      case h_2 => cases hu
      rename_i g hg
      split at hu
      case h_2 => cases hu
      rename_i h1 hgh
      obtain ⟨hent, hcall⟩ := hdv f g hg (args ++ cap) (args' ++ cap') h h1 ρ w hk (har.append hca) hgh
      refine ⟨by simp, .inr ⟨by simp [Fence.wide], .func f, ⟨cap'⟩, f, ⟨args' ++ cap'⟩, rfl, ?_, fun _ _ => trivial, ?_⟩⟩
      · simp only [invoke]
        rw [show ((⟨args'⟩ : Array Value) ++ ⟨cap'⟩) = ⟨args' ++ cap'⟩ by simp]
        exact hent
      · refine CallsDIn.mono hcall fun e u' w' he => ?_
        obtain ⟨⟨v, rfl⟩, hs, ρ1, k1, k2⟩ := he
        simp only [hs]
        have hle := k2.le hk
        exact ih l' k1 (hf.mono hle) (hrest.mono hle) (hr.trans hk0 k2) ho hu
    | @collected b pl _ l' e1 hrest =>
      simp only [endK] at hu
      split at hu
      case h_2 => cases hu
      rename_i eH
      have g1 := hk.1.hr _ _ _ e1 eH
      have g1 : w.heap[pl.b]? = some (.deferred (some [])) := g1
      have hlt := (Array.getElem?_eq_some_iff.1 g1).1
      obtain ⟨k1, k2⟩ := hk.write (w' := w.putObj pl.b (.deferred none)) (hb' := .dfr true) e1 eH rfl (by simp [World.putObj])
        (fun b hb => by show (w.heap.setIfInBounds pl.b _)[b]? = _; rw [Array.getElem?_setIfInBounds_ne (Ne.symm hb)]) (by show (w.heap.setIfInBounds pl.b _)[pl.b]? = _; simp [hlt]) rfl rfl rfl
      refine ⟨by simp, .inl ⟨pl.b, _, rfl, run_takeDeferred g1, ?_⟩⟩
      exact ih l' k1 hf hrest (hr.trans hk0 ⟨k2, AF.put _ _ _⟩) ho hu
end
end Go.Ev
end

section
/-
  Every function.
-/
namespace Go.Ev
section
variable {P : Program} {τ : Tab} {ρ : Ren} {h : Hp} {w : World}

/-- A piece of code does what it is summed up to. -/
def HookOk (P : Program) (τ : Tab) (x : HookF) (c : Code) : Prop := ∀ (ρ : Ren) (fr fr' : Fr) (h h' : Hp) (a : Act) (w : World), St P τ ρ fr h a w → x fr h = some (fr', h') →
  ∀ (K : Kt) (outs : List Out), K.n fr' h' = some outs → c.wpIn (Fw none) 0 P (QK P τ ρ w h K outs) a w

/-- What is asked of all that is summed up. -/
structure SumsOk (P : Program) (τ : Tab) (S : Sums) : Prop where
  ov : ∀ f g, S.ov f = some g → ∀ (call : CallF), CallOk P τ call → ∀ (args args' : List Value) (h h' : Hp) (v : Value) (ρ : Ren) (w : World), Hkt P τ ρ h w → LR ρ args args' → g call args h = some (v, h') →
    ∀ (k kp : Value → Hp → RR) (outs : List Out), k v h' = some outs → Ans P (callFunc f ⟨args'⟩) w (Post P τ ρ w h k kp outs)
  dv : DvOk P τ S.dv
  ex : ∀ f e, τ.ex.get f = some e → ∀ (args args' : List Value) (h h' : Hp) (v : Value) (ρ : Ren) (w : World), Hkt P τ ρ h w → LR ρ args args' → extB τ e args h = some (v, h') → Goes P τ ρ h w (callFunc f ⟨args'⟩) v h'
  cr : ∀ f fn c, τ.fn.get f = some fn → fn.body = some c → CR P c
  hk : ∀ f g, S.hk f = some g → ∀ fn c, τ.fn.get f = some fn → fn.body = some c → ∀ i x ci, g i = some x → (flatC c)[i]? = some ci → HookOk P τ x ci

/-- A function whose ways are joined. -/
def NdOk (P : Program) (τ : Tab) (S : Sums) : Prop :=
  ∀ f e i, S.nd f = some e → τ.inf.get e = some i → ∀ (R0 : CallF) (args args' : List Value) (h h' : Hp) (v : Value) (ρ : Ren) (w : World), Hkt P τ ρ h w → LR ρ args args' →
    (∀ k kp outs, R0 (.func f) args h.mark k kp = some outs → Ans P (callFunc f ⟨args'⟩) w (Post P τ ρ w h.mark k kp outs)) →
    joined h e (R0 (.func f) args h.mark (fun v h' => bif h'.lo.noOld h.nx then (match flatB h' h.nx e i.size v with | some (n, l) => some [.flat n l] | none => none) else none) (fun _ _ => none)) = some (v, h') →
    ∀ (k kp : Value → Hp → RR) (outs : List Out), k v h' = some outs → Ans P (callFunc f ⟨args'⟩) w (Post P τ ρ w h k kp outs)

theorem frame0_sound {args args' : List Value} {n : Nat} {fr : Fr} (hl : LR ρ args args') (hu : frame0 args n = some fr) :
    Fok ρ fr { tmps := (⟨args'⟩ : Array Value) ++ Array.replicate (n - (⟨args'⟩ : Array Value).size) undef, defers := [] } ∧ fr.ds = [] := by
  unfold frame0 at hu
  replace hu := bifO hu; obtain ⟨hc, hu⟩ := hu
  have hc := Nat.le_of_ble_eq_true hc
  simp only [Option.some.injEq] at hu; subst hu
  have hlen := hl.length
  refine ⟨⟨by simp; omega, fun i v hv => ?_⟩, rfl⟩
  simp only at hv
  rw [T.get_laid] at hv
  by_cases hi : 0 ≤ i ∧ i < 0 + args.length
  · rw [if_pos hi] at hv
    simp only [Nat.sub_zero] at hv
    obtain ⟨v', h1, h2⟩ := hl.get hv
    refine ⟨v', ?_, h2⟩
    rw [Array.getElem?_append_left (by simp; omega)]
    simpa using h1
  · rw [if_neg hi, T.get_nil] at hv; cases hv

/-- Codes one behind the other. -/
def wpList (F : Fence) (n : Nat) (P : Program) (Q : Exit → Act → World → Prop) : List Code → Act → World → Prop
  | [], a, w => Q .normal a w
  | c :: l, a, w => c.wpIn F n P (Exit.then (wpList F n P Q l) Q) a w
theorem then_mono {next next' : Act → World → Prop} {Q : Exit → Act → World → Prop} {e : Exit} {a : Act} {w : World} (h : Exit.then next Q e a w) (hn : next a w → next' a w) : Exit.then next' Q e a w := by
  cases e with
  | normal => exact hn h
  | _ => exact h
theorem wpList_flat {F : Fence} {n : Nat} {Q : Exit → Act → World → Prop} : ∀ (c : Code) (l : List Code) (a : Act) (w : World), wpList F n P Q (flatC c ++ l) a w → c.wpIn F n P (Exit.then (wpList F n P Q l) Q) a w := by
  intro c
  induction c with
  | seq x y ihx ihy =>
    intro l a w h
    refine wpIn_seq (wpIn_mono (ihx (flatC y ++ l) a w (by rw [← List.append_assoc]; exact h)) fun e a1 w1 hq => ?_)
    cases e with
    | normal => exact ihy l a1 w1 hq
    | _ => exact hq
  | _ => intro l a w h; exact h
theorem wpIn_flat {F : Fence} {n : Nat} {Q : Exit → Act → World → Prop} {c : Code} {a : Act} {w : World} (h : wpList F n P Q (flatC c) a w) : c.wpIn F n P Q a w := by
  refine wpIn_mono (wpList_flat c [] a w (by rw [List.append_nil]; exact h)) fun e a1 w1 hq => ?_
  cases e with
  | normal => exact hq
  | _ => exact hq
theorem CR_flat : ∀ {c : Code}, CR P c → ∀ c' ∈ flatC c, CR P c' := by
  intro c
  induction c with
  | seq x y ihx ihy =>
    intro h c' hc'
    rcases List.mem_append.1 hc' with hc' | hc'
    · exact ihx h.1 c' hc'
    · exact ihy h.2 c' hc'
  | _ => intro h c' hc'; obtain rfl := List.mem_singleton.1 hc'; exact h

theorem seq_sound (T : TabOk P τ) {call : CallF} (hc : CallOk P τ call) (hdr : DrawOk P τ call) (L : Nat) {g : Nat → Option HookF} {K : Kt} : ∀ (l : List Code) (i : Nat), (∀ c ∈ l, CR P c) →
    (∀ j x cj, g (i + j) = some x → l[j]? = some cj → HookOk P τ x cj) → ∀ {fr : Fr} {h : Hp} {a : Act} {w : World} {ρ : Ren} {outs : List Out},
    St P τ ρ fr h a w → seqK τ call L none g l i K fr h = some outs → wpList (Fw none) 0 P (QK P τ ρ w h K outs) l a w := by
  intro l
  induction l with
  | nil => intro i _ _ fr h a w ρ outs st hu; exact ⟨ρ, fr, h, outs, st, RF.refl st.hk, fun _ hx => hx, hu⟩
  | cons c l ih =>
    intro i hcr hhk fr h a w ρ outs st hu
    have hcr' : ∀ c ∈ l, CR P c := fun c hc => hcr c (List.mem_cons_of_mem _ hc)
    have hhk' : ∀ j x cj, g (i + 1 + j) = some x → l[j]? = some cj → HookOk P τ x cj := fun j x cj h1 h2 => hhk (j + 1) x cj (by rw [← h1]; congr 1; omega) (by simpa using h2)
    have key : c.wpIn (Fw none) 0 P (QK P τ ρ w h { n := fun fr h => seqK τ call L none g l (i + 1) K fr h, x := K.x, r := K.r, p := K.p } outs) a w := by
      simp only [seqK] at hu
      split at hu
      · rename_i x hx
        split at hu
        case h_2 => cases hu
        rename_i fr' h' hx'
        exact hhk 0 x c hx rfl ρ fr fr' h h' a w st hx' _ outs hu
      · exact code_sound T hc hdr L c (hcr c List.mem_cons_self) (ro := none) (ro' := none) st trivial hu
    refine wpIn_mono key fun e a1 w1 hq => ?_
    refine then_mono (QK.then_ hq (next := fun a1 w1 => ∃ ρ1 fr1 h1 o1, St P τ ρ1 fr1 h1 a1 w1 ∧ RF ρ w h ρ1 w1 h1 ∧ o1 ⊆ outs ∧ seqK τ call L none g l (i + 1) K fr1 h1 = some o1) fun ρ1 fr1 h1 o1 k1 k2 k3 k4 => ⟨ρ1, fr1, h1, o1, k1, k2, k3, k4⟩) ?_
    rintro ⟨ρ1, fr1, h1, o1, k1, k2, k3, k4⟩
    have := ih (i + 1) hcr' hhk' k1 k4
    have mono : ∀ (l : List Code) (a : Act) (w' : World), wpList (Fw none) 0 P (QK P τ ρ1 w1 h1 K o1) l a w' → wpList (Fw none) 0 P (QK P τ ρ w h K outs) l a w' := by
      intro l
      induction l with
      | nil => intro a w' hh; exact QK.trans st.hk k2 k3 hh
      | cons c l ihl =>
        intro a w' hh
        refine wpIn_mono hh fun e a2 w2 hq => ?_
        cases e with
        | normal => exact ihl a2 w2 hq
        | exit id => have hq' : QK P τ ρ1 w1 h1 K o1 (.exit id) a2 w2 := hq; exact (QK.trans st.hk k2 k3 hq' : QK P τ ρ w h K outs (.exit id) a2 w2)
        | goto l => have hq' : QK P τ ρ1 w1 h1 K o1 (.goto l) a2 w2 := hq; exact (QK.trans st.hk k2 k3 hq' : QK P τ ρ w h K outs (.goto l) a2 w2)
        | ret => have hq' : QK P τ ρ1 w1 h1 K o1 .ret a2 w2 := hq; exact (QK.trans st.hk k2 k3 hq' : QK P τ ρ w h K outs .ret a2 w2)
        | panic ch => have hq' : QK P τ ρ1 w1 h1 K o1 (.panic ch) a2 w2 := hq; exact (QK.trans st.hk k2 k3 hq' : QK P τ ρ w h K outs (.panic ch) a2 w2)
        | outgrown => have hq' : QK P τ ρ1 w1 h1 K o1 .outgrown a2 w2 := hq; exact (QK.trans st.hk k2 k3 hq' : QK P τ ρ w h K outs .outgrown a2 w2)
    exact mono l a1 w1 this

theorem body_sound (T : TabOk P τ) {S : Sums} (hS : SumsOk P τ S) {call : CallF} (hc : CallOk P τ call) (hdr : DrawOk P τ call) (L : Nat) {f : FuncId} {fn : Func} {c : Code} (hfn : τ.fn.get f = some fn) (hb : fn.body = some c) {K : Kt} {fr : Fr} {h : Hp} {a : Act} {w : World}
    {ρ : Ren} {outs : List Out} (st : St P τ ρ fr h a w) (hu : bodyK τ S call L f c K fr h = some outs) : c.wpIn (Fw none) 0 P (QK P τ ρ w h K outs) a w := by
  unfold bodyK at hu
  split at hu
  · exact code_sound T hc hdr L c (hS.cr f fn c hfn hb) (ro := none) (ro' := none) st trivial hu
  · rename_i g hg
    exact wpIn_flat (seq_sound T hc hdr L (flatC c) 0 (CR_flat (hS.cr f fn c hfn hb)) (fun j x cj h1 h2 => hS.hk f g hg fn c hfn hb j x cj (by simpa using h1) h2) st hu)

theorem funBody_sound (T : TabOk P τ) {S : Sums} (hS : SumsOk P τ S) {call : CallF} (hc : CallOk P τ call) (hdr : DrawOk P τ call) (L : Nat) {f : FuncId} {args args' : List Value} {k kp : Value → Hp → RR} {outs : List Out}
    (hk : Hkt P τ ρ h w) (hl : LR ρ args args') (hu : funBody τ S call L f args h k kp = some outs) : Ans P (callFunc f ⟨args'⟩) w (Post P τ ρ w h k kp outs) := by
  unfold funBody at hu
  split at hu
  · cases hu
  rename_i fn hfn
  split at hu
  · split at hu
    case h_2 => cases hu
    rename_i e he
    split at hu
    case h_2 => cases hu
    rename_i v h' hext
    exact (hS.ex f e he args args' h h' v ρ w hk hl hext).ans (extB_af hext) hu
  · rename_i c hbody
    split at hu
    case h_2 => cases hu
    rename_i fr0 hfr0
    obtain ⟨f1, f2⟩ := frame0_sound hl hfr0
    have hsome : fn.body.isSome = true := by rw [hbody]; rfl
    have hent := MuLone.run_callFunc_enter (P := P) (T.fn _ _ hfn).1 ((T.fn _ _ hfn).2 hsome) hbody ⟨args'⟩ w
    unfold Ans
    rw [hent]
    refine callsIn_of_wp_marks (T.fn _ _ hfn).1 hbody trivial ?_
    have st : St P τ ρ fr0 h { tmps := (⟨args'⟩ : Array Value) ++ Array.replicate (fn.ntmps - (⟨args'⟩ : Array Value).size) undef, defers := [] } w := ⟨hk, f1, by rw [f2]; exact .nil⟩
    have hF : Fence.wide = Fw none := rfl
    rw [hF]
    refine wpIn_mono (body_sound T hS hc hdr L hfn hbody st hu) fun e a1 w1 hq => ?_
    obtain ⟨ρ1, fr1, h1, o1, k1, k2, k3, k4⟩ := hq
    cases e with
    | normal => exact end_sound T hS.dv hk _ _ k1.hk k1.fok k1.ds k2 k3 k4
    | ret => exact end_sound T hS.dv hk _ _ k1.hk k1.fok k1.ds k2 k3 k4
    | exit id => cases k4
    | goto l => exact k4.elim
    | outgrown => exact k4.elim
    | panic ch =>
      obtain ⟨v, v', rfl, hv, k4⟩ := k4
      simp only [] at k4
      split at k4
      case h_2 => cases k4
      rename_i hds
      have hd := k1.ds
      rw [hds] at hd
      have : a1.defers = [] := by generalize a1.defers = l at hd; cases hd; rfl
      show LeavesInM (Fw none) 0 P fn a1.tmps _ a1.defers (.panicking _) w1
      rw [this]
      exact ⟨ρ1, v, v', h1, o1, rfl, hv, k1.hk, k2, k4, k3⟩

theorem Hkt.mark (hk : Hkt P τ ρ h w) : Hkt P τ ρ h.mark w := hk

theorem fun_sound (T : TabOk P τ) {S : Sums} (hS : SumsOk P τ S) (hnd : NdOk P τ S) (hdr : ∀ call, CallOk P τ call → DrawOk P τ call) (L : Nat) : ∀ n, CallOk P τ (funK τ S L n) := by
  intro n
  induction n with
  | zero => intro fn fn' args args' h k kp outs ρ w _ _ _ hu; cases hu
  | succ n ih =>
    intro fn fn' args args' h k kp outs ρ w hk hfn hl hu
    cases hfn with
    | func f =>
      simp only [funK] at hu
      split at hu
      · rename_i v h' hgv
        split at hgv
        case h_2 => cases hgv
        rename_i g hg
        exact hS.ov f g hg _ ih args args' h h' v ρ w hk hl hgv k kp outs hu
      · split at hu
        · rename_i e he
          split at hu
          case h_2 => cases hu
          rename_i i hi
          split at hu
          case h_2 => cases hu
          rename_i v h' hj
          exact hnd f e i he hi (fun fn args h k kp => match fn with | .func f => funBody τ S (funK τ S L n) L f args h k kp | _ => none) args args' h h' v ρ w hk hl
            (fun k kp outs hb => funBody_sound T hS ih (hdr _ ih) L hk.mark hl hb) hj k kp outs hu
        · exact funBody_sound T hS ih (hdr _ ih) L hk hl hu
    | method n => cases hu
    | methodOf t n => cases hu
    | via t p f r => cases hu
    | yield e1 => exact round_sound T ih (hdr _ ih) L hk e1 hl hu
end
end Go.Ev
end

section
/-
  Functions whose ways are joined.
-/
namespace Go.Ev
section
variable {P : Program} {τ : Tab} {ρ : Ren} {h : Hp} {w : World}

theorem joined_spec {e : TypeId} {r : RR} {v : Value} {h' : Hp} (hj : joined h e r = some (v, h')) : ∃ n l rest, r = some (.flat n l :: rest) ∧ n ≠ 0 ∧ v = .slice (some ⟨h.nx, 0, none⟩) n n ∧ h' = rowA h e l ∧
    ∀ n' l', Out.flat n' l' ∈ (.flat n l :: rest) → n' = n ∧ l' = l := by
  unfold joined at hj
  split at hj
  case h_2 => cases hj
  rename_i n l rest
  replace hj := bifO hj; obtain ⟨hall, hj⟩ := hj
  replace hj := bifN hj; obtain ⟨hn, hj⟩ := hj
  simp only [Option.some.injEq, Prod.mk.injEq] at hj; obtain ⟨rfl, rfl⟩ := hj
  refine ⟨n, l, rest, rfl, fun hh => by rw [hh] at hn; simp at hn, rfl, rfl, fun n' l' hm => ?_⟩
  rcases List.mem_cons.1 hm with hm | hm
  · cases hm; exact ⟨rfl, rfl⟩
  · have := List.all_eq_true.1 hall _ hm
    simp only [] at this
    obtain ⟨h1, h2⟩ := and2 this
    exact ⟨Nat.eq_of_beq_eq_true h1, (sameCells_spec h2).1.symm⟩

theorem nd_ok (T : TabOk P τ) (S : Sums) : NdOk P τ S := by
  intro f e i _ hi R0 args args' h h' v ρ w hk hl hR hj k kp outs hkv
  obtain ⟨n, l, rest, hr, hn, rfl, rfl, hall⟩ := joined_spec hj
  refine (hR _ _ _ hr).mono fun en w' he => ?_
  cases en with
  | outgrown => exact he
  | panicked ch => obtain ⟨_, _, _, _, _, _, _, _, _, hb, _⟩ := he; cases hb
  | returned v' =>
    obtain ⟨ρ1, v1, h1, o1, hv1, hk1, rf, hK, hsub⟩ := he
    simp only [] at hK
    replace hK := bifO hK; obtain ⟨hlo, hK⟩ := hK
    have hlo : ∀ id, id < h.nx → ¬ h1.lo.has id := fun id hid => noOld_spec hlo hid
    split at hK
    case h_2 => cases hK
    rename_i n1 l1 hfl
    simp only [Option.some.injEq] at hK; subst hK
    obtain ⟨rfl, rfl⟩ := hall n1 l1 (hsub (List.mem_singleton.2 rfl))
    unfold flatB at hfl
    split at hfl
    case h_2 => cases hfl
    rename_i a len cap
    split at hfl
    case h_2 => cases hfl
    rename_i c nB el xx eH
    replace hfl := bifO hfl; obtain ⟨hc, hfl⟩ := hfl
    obtain ⟨hc, c4⟩ := and2 hc
    obtain ⟨hc, c3⟩ := and2 hc
    obtain ⟨c1, c2⟩ := and2 hc
    have c1 := Nat.le_of_ble_eq_true c1
    have c2 := Nat.eq_of_beq_eq_true c2
    have c3 := Nat.le_of_ble_eq_true c3
    have c4 := Nat.le_of_ble_eq_true c4
    subst c2
    split at hfl
    case h_2 => cases hfl
    rename_i l2 hg
    replace hfl := bifO hfl; obtain ⟨hpl, hfl⟩ := hfl
    simp only [Option.some.injEq, Prod.mk.injEq] at hfl
    obtain ⟨rfl, rfl⟩ := hfl
    cases hv1 with | @slice id off sp _ _ pl o' e1 e2 =>
    have c1 : h.nx ≤ id := c1
    have c3 : off + cap * i.size ≤ nB := c3
    have ho := e2 (by omega)
    obtain ⟨C, fz, g1, g2, g3, g4, g5, g6⟩ := hk1.1.hr _ _ _ e1 eH
    have hfz : fz.1 = fz.2 := by
      rcases g5 with h | ⟨h, _⟩ | ⟨h1, h2, h3⟩
      · exact h
      · cases h
      · omega
    have hii := T.inf _ _ hi
    have g3' := g3 i hii
    obtain ⟨hgl, hgg⟩ := gather_get _ _ _ _ hg
    have hgg : ∀ (j : Nat) v, l2[j]? = some v → c.get (off + j) = some v := hgg
    have hfresh := hk.1.fresh
    have hstp := rf.stp
    have hnone : ∀ id' pl', h1.lo.has id' → ρ id' = some pl' → False := fun id' pl' h1' e' => by rw [hfresh id' (Nat.le_of_not_lt fun hh => hlo id' hh h1')] at e'; cases e'
    have hs1 : (len) * i.size + (cap + slk sp pl - len) * i.size = (cap + slk sp pl) * i.size := by rw [← Nat.add_mul]; congr 1; omega
    have hs2 : (cap + slk sp pl) * i.size = cap * i.size + slk sp pl * i.size := Nat.add_mul ..
    have hs3 : slk sp pl * i.size ≤ pl.s * i.size := Nat.mul_le_mul_right _ (by unfold slk; split <;> omega)
    have hs4 : len * i.size ≤ cap * i.size := Nat.mul_le_mul_right _ c4
    have hle := Ren.le_upd (hfresh h.nx (Nat.le_refl _)) ⟨pl.b, pl.o + off, cap + slk sp pl - len⟩
    have hheap : ∀ id' pl', ρ id' = some pl' → w'.heap[pl'.b]? = w.heap[pl'.b]? := fun id' pl' e' => hstp.chg _ (hk.1.bnd _ _ e') fun id2 pl2 h2 e2' => (hnone id2 pl2 h2 e2').elim
    have hid : ∀ id', id' < h.nx → h1.t.get id' = h.t.get id' := fun id' hlt => rf.af.2.2 id' hlt (hlo id' hlt)
    have hBR : BR P (ρ.upd h.nx ⟨pl.b, pl.o + off, cap + slk sp pl - len⟩) ⟨pl.b, pl.o + off, cap + slk sp pl - len⟩ w' (.cells (Ev.T.laid l2 0 .nil) l2.length el 0 0 false) := by
      refine ⟨C, fz, g1, by rw [hgl]; show pl.o + off + _ ≤ _; omega, fun i' hi' => ?_, fun j v hv => ?_, .inl hfz, by simp⟩
      · rw [hii] at hi'; cases hi'; rw [hgl]; show pl.o + off + _ + (cap + slk sp pl - len) * i.size ≤ _; omega
      · rw [Ev.T.get_laid] at hv
        by_cases hj : 0 ≤ j ∧ j < 0 + l2.length
        · rw [if_pos hj] at hv
          simp only [Nat.sub_zero] at hv
          obtain ⟨_, v', q1, q2⟩ := g4 _ _ (hgg j v hv)
          have hpc := List.all_eq_true.1 hpl v (List.mem_of_getElem? hv)
          refine ⟨by omega, v', by show C[pl.o + off + j]? = _; rw [Nat.add_assoc]; exact q1, ?_⟩
          rw [q2.plainCell_eq hpc]; exact VR.plainCell_refl hpc
        · rw [if_neg hj, Ev.T.get_nil] at hv; cases hv
    have hHok : Hkt P τ (ρ.upd h.nx ⟨pl.b, pl.o + off, cap + slk sp pl - len⟩) (rowA h el l2) w' := by
      refine ⟨?_, Nat.le_succ_of_le hk.2⟩
      show Hok P τ _ (h.t.ins h.nx _).get (h.nx + 1) w'
      rw [get_ins_upd]
      refine ⟨fun id' h' => ?_, fun id' pl' hb e' eH' => ?_, fun id' pl' e' => ?_, fun x y px py hx ex ey eHx hxy hb => ?_, fun g hg' => ?_⟩
      · unfold Ren.upd; rw [if_neg (by omega)]; exact hfresh id' (by omega)
      · unfold Ren.upd at e'; unfold updH at eH'
        by_cases hh : id' = h.nx
        · rw [if_pos hh] at e' eH'; cases e'; cases eH'; exact hBR
        · rw [if_neg hh] at e' eH'
          exact (hk.1.hr _ _ _ e' eH').mono hle (hheap _ _ e')
      · unfold Ren.upd at e'
        by_cases hh : id' = h.nx
        · rw [if_pos hh] at e'; cases e'; exact hk1.1.bnd id pl e1
        · rw [if_neg hh] at e'; exact Nat.lt_of_lt_of_le (hk.1.bnd _ _ e') hstp.size
      · unfold Ren.upd at ex ey; unfold updH at eHx
        by_cases h1' : x = h.nx
        · by_cases h2' : y = h.nx
          · omega
          · rw [if_neg h2'] at ey
            have : y < h.nx := Nat.lt_of_not_le fun hh => by rw [hfresh y hh] at ey; cases ey
            omega
        · rw [if_neg h1'] at ex eHx
          have hlt : x < h.nx := Nat.lt_of_not_le fun hh => by rw [hfresh x hh] at ex; cases ex
          by_cases h2' : y = h.nx
          · rw [if_pos h2'] at ey; cases ey
            have ex1 : ρ1 x = some px := by rw [hstp.ext x hlt]; exact ex
            have eH1 : h1.t.get x = some hx := by rw [hid x hlt]; exact eHx
            rcases Nat.lt_trichotomy x id with hh | hh | hh
            · exact hk1.1.ord x id px pl hx ex1 e1 eH1 hh hb
            · omega
            · have := hk1.1.ord id x pl px _ e1 ex1 eH hh hb.symm; cases this
          · rw [if_neg h2'] at ey; exact hk.1.ord x y px py hx ex ey eHx hxy hb
      · have := hk.2
        unfold Ren.upd; rw [if_neg (by omega)]; exact hk.1.glob g hg'
    refine ⟨_, _, _, outs, ?_, hHok, ⟨⟨fun id' h' => ?_, hstp.size, fun b hb _ => hstp.chg b hb fun id2 pl2 h2 e2' => (hnone id2 pl2 h2 e2').elim, fun id' pl' h' e' => ?_, Nat.le_succ _, hstp.os, hstp.out, hstp.tape, hstp.drawn⟩, AF.new _ _⟩, hkv, fun _ hx => hx⟩
    · have hvr := VR.slice (ρ := ρ.upd h.nx ⟨pl.b, pl.o + off, cap + slk sp pl - len⟩) (id := h.nx) (off := 0) (sp := none) (len := len) (cap := len) (o' := o') (Ren.upd_same _ _) (fun _ => by simp only []; omega)
      have hcc : len + slk none (⟨pl.b, pl.o + off, cap + slk sp pl - len⟩ : Pl) = cap + slk sp pl := by
        show len + (cap + slk sp pl - len) = _
        omega
      rw [hcc] at hvr
      exact hvr
    · have h' : id' < h.nx := h'
      unfold Ren.upd; rw [if_neg (by omega)]
    · unfold Ren.upd at e'
      by_cases hh : id' = h.nx
      · rw [if_pos hh] at e'; cases e'
        rcases hstp.new id pl c1 e1 with hx | ⟨j, pj, hj1, hj2, _⟩
        · exact .inl hx
        · exact (hnone j pj hj1 hj2).elim
      · rw [if_neg hh, hfresh id' h'] at e'; cases e'
end
end Go.Ev
end
