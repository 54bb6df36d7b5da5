/-
  The evaluator of closed runs (a part): EvS44, EvS45, EvS46, EvS47.
-/
import Derived.Test.YtehhkecoedbjoaaGreatDoorEv17
import Derived.OpenShut
import Derived.ChangeArms
import Derived.Stop.Joined
import Derived.Handed
import GoSem.ClaimGoes
set_option linter.unusedVariables false
set_option linter.unusedSimpArgs false
set_option linter.unusedSectionVars false
section
/-
  Package-level variables whose data are listed: their cells.
-/
namespace Go.Ev
noncomputable def flatL (f : DataW Unit → Option (List Value)) : List (DataW Unit) → Option (List (List Value))
  | [] => some []
  | d :: l => match f d, flatL f l with
    | some a, some r => some (a :: r)
    | _, _ => none
noncomputable def flatF (P : Program) (f : TypeId → DataW Unit → Option (List Value)) : Nat → List Field → List (DataW Unit) → Option (List Value)
  | _, [], [] => some []
  | off, fl :: fs, d :: ds => match f fl.type d with
    | some a => bif Nat.beq fl.offset off && Nat.beq a.length (P.cellsOf fl.type) then (match flatF P f (off + P.cellsOf fl.type) fs ds with
      | some r => some (a ++ r)
      | none => none) else none
    | none => none
  | _, _, _ => none
noncomputable def flatD (P : Program) : Nat → TypeId → DataW Unit → Option (List Value)
  | 0, _, _ => none
  | n + 1, t, d => match P.underlying t with
    | some (.int _) => (match d with | .lit (.int k m) => some [.int k m] | _ => none)
    | some .bool => (match d with | .lit (.bool b) => some [.bool b] | _ => none)
    | some .string => (match d with | .lit (.string l) => some [.string ⟨⟨l⟩⟩] | _ => none)
    | some (.array m e) => (match d with
      | .agg ds => (match flatL (flatD P n e) ds with
        | some ls => bif Nat.beq (P.cellsOf t) (m * P.cellsOf e) && ls.all (fun l => Nat.beq l.length (P.cellsOf e)) then some ls.flatten else none
        | none => none)
      | _ => none)
    | some (.struct fs) => (match d with
      | .agg ds => (match flatF P (flatD P n) 0 fs.toList ds with
        | some l => bif Nat.beq (P.cellsOf t) l.length then some l else none
        | none => none)
      | _ => none)
    | _ => none
section
variable {P : Program}
theorem flatL_get {f : DataW Unit → Option (List Value)} : ∀ {ds : List (DataW Unit)} {ls : List (List Value)}, flatL f ds = some ls → ls.length = ds.length ∧ ∀ (i : Nat) (d : DataW Unit), ds[i]? = some d → ∃ l, ls[i]? = some l ∧ f d = some l
  | [], ls, h => by cases h; exact ⟨rfl, fun i d hd => by simp at hd⟩
  | d :: ds, ls, h => by
    simp only [flatL] at h
    split at h
    case h_2 => cases h
    rename_i a r h1 h2
    cases h
    obtain ⟨q1, q2⟩ := flatL_get h2
    refine ⟨by simp [q1], fun i d' hd => ?_⟩
    cases i with
    | zero => simp at hd; subst hd; exact ⟨a, rfl, h1⟩
    | succ i => rw [List.getElem?_cons_succ] at hd ⊢; exact q2 i d' hd
theorem chunks {α : Type} {c : Nat} : ∀ {ls : List (List α)} {cs : List α}, cs.length = ls.length * c → (∀ i l, ls[i]? = some l → (cs.drop (i * c)).take c = l) → cs = ls.flatten
  | [], cs, hl, _ => by simp at hl; simp [hl]
  | l :: ls, cs, hl, h => by
    have h0 := h 0 l rfl
    simp at h0
    have hr : cs.drop c = ls.flatten := chunks (c := c) (by simp [hl, Nat.add_mul]) (fun i x hx => by
      have := h (i + 1) x (by simpa using hx)
      rw [List.drop_drop, Nat.add_comm c, ← Nat.succ_mul]; exact this)
    rw [List.flatten_cons, ← h0, ← hr, List.take_append_drop]
theorem fields {w : World} {base : Nat} {spare : Nat → Bool} {held : Bool} {m : Nat} {f : TypeId → DataW Unit → Option (List Value)}
    (ih : ∀ (t : TypeId) (cs l : List Value) (x : DataW Unit × List MemPlace), DataW.trod (fun _ => ()) P w base spare held m t cs = some x → f t x.1 = some l → cs = l) (cs : List Value) :
    ∀ (fs : List Field) (xs : List (DataW Unit × List MemPlace)) (off : Nat) (l : List Value), xs.length = fs.length →
      (∀ (i : Nat) (fl : Field), fs[i]? = some fl → DataW.trod (fun _ => ()) P w base spare held m fl.type ((cs.drop fl.offset).take (P.cellsOf fl.type)) = xs[i]?) →
      flatF P f off fs (xs.map (·.1)) = some l → (cs.drop off).take l.length = l
  | [], [], off, l, _, _, h => by cases h; simp
  | fl :: fs, x :: xs, off, l, hlen, hx, h => by
    simp only [List.map_cons, flatF] at h
    split at h
    case h_2 => cases h
    rename_i a ha
    replace h := bifO h; obtain ⟨hc, h⟩ := h
    obtain ⟨h1, h2⟩ := and2 hc
    have h1 := Nat.eq_of_beq_eq_true h1
    have h2 := Nat.eq_of_beq_eq_true h2
    split at h
    case h_2 => cases h
    rename_i r hr
    cases h
    have hx0 := hx 0 fl rfl
    have e0 := ih _ _ _ _ hx0 ha
    have e1 := fields ih cs fs xs _ r (by simpa using hlen) (fun i f' hf => by have := hx (i + 1) f' (by simpa using hf); simpa using this) hr
    rw [← h2] at e0 e1
    rw [h1] at e0
    rw [List.length_append, List.take_add, e0, List.drop_drop, e1]
  | [], _ :: _, _, _, hlen, _, _ => by simp at hlen
  | _ :: _, [], _, _, hlen, _, _ => by simp at hlen
theorem flatD_ok {w : World} {base : Nat} {spare : Nat → Bool} {held : Bool} : ∀ (n fuel : Nat) (t : TypeId) (cs l : List Value) (x : DataW Unit × List MemPlace), DataW.trod (fun _ => ()) P w base spare held fuel t cs = some x → flatD P n t x.1 = some l → cs = l := by
  intro n
  induction n with
  | zero => intro fuel t cs l x _ h; cases h
  | succ n ih =>
    intro fuel t cs l x hx h
    simp only [flatD] at h
    split at h
    · rename_i k ht
      obtain ⟨m, rfl, rfl, _⟩ := DataW.trod_int ht hx
      cases h; rfl
    · rename_i ht
      obtain ⟨b, rfl, rfl⟩ := DataW.trod_bool ht hx
      cases h; rfl
    · rename_i ht
      obtain ⟨s, rfl, rfl, _⟩ := DataW.trod_string ht hx
      cases h; rfl
    · rename_i m e ht
      obtain ⟨xs, q, rfl, rfl, hl, hlen, hi⟩ := DataW.trod_array ht hx
      simp only at h
      split at h
      case h_2 => cases h
      rename_i ls hls
      replace h := bifO h; obtain ⟨hc, h⟩ := h
      cases h
      obtain ⟨h1, h2⟩ := and2 hc
      have h1 := Nat.eq_of_beq_eq_true h1
      obtain ⟨g1, g2⟩ := flatL_get hls
      simp only [List.length_map] at g1
      refine chunks (c := P.cellsOf e) (by rw [hl, h1, g1, hlen]) fun i a ha => ?_
      have hi' : i < m := by
        have : i < ls.length := by
          rcases Nat.lt_or_ge i ls.length with h | h
          · exact h
          · rw [List.getElem?_eq_none h] at ha; cases ha
        omega
      have hti := hi i hi'
      obtain ⟨d, hd⟩ : ∃ d, xs[i]? = some d := ⟨xs[i]'(by omega), List.getElem?_eq_getElem (by omega)⟩
      obtain ⟨a', e1, e2⟩ := g2 i d.1 (by rw [List.getElem?_map, hd]; rfl)
      rw [ha] at e1; cases e1
      rw [hd] at hti
      exact ih _ _ _ _ _ hti e2
    · rename_i fs ht
      obtain ⟨xs, q, rfl, rfl, hl, hlen, hi⟩ := DataW.trod_struct ht hx
      simp only at h
      split at h
      case h_2 => cases h
      rename_i r hr
      replace h := bifO h; obtain ⟨hc, h⟩ := h
      cases h
      have h1 := Nat.eq_of_beq_eq_true hc
      have := fields (fun t cs l x h1 h2 => ih _ t cs l x h1 h2) cs fs.toList xs 0 l (by simpa using hlen) (fun i f hf => hi i f (by simpa using hf)) hr
      rw [List.drop_zero, ← h1, ← hl, List.take_length] at this
      exact this
    · cases h
end
end Go.Ev
end

section
/-
  The state that a row's call begins in.
-/
namespace Go.Ev
section
variable {P : Program} {w : World}
theorem push_get {a : Array Obj} {x : Obj} {i : Nat} (h : i < a.size) : (a.push x)[i]? = a[i]? := by
  rw [Array.getElem?_push, if_neg (by omega)]
theorem begin_row {g : Nat} {G : Global} (hg : P.globals[g]? = some G) : ∃ zero, ((begin P (fun _ _ => 0) default).world.heap[g]?).bind Obj.row? = some (zero, G.type) := by
  have hlt : g < P.globals.size := by
    rcases Nat.lt_or_ge g P.globals.size with h | h
    · exact h
    · rw [Array.getElem?_eq_none h] at hg; cases hg
  have hG : P.globals[g] = G := by
    rw [Array.getElem?_eq_getElem hlt] at hg; exact Option.some.inj hg
  unfold begin
  simp only
  rw [push_get (by simp; omega), push_get (by simp; omega), push_get (by simp; omega), push_get (by simp; omega), push_get (by simp; omega), Array.getElem?_mapIdx, hg]
  simp only [Option.map_some, Option.bind_some]
  split
  · exact ⟨_, rfl⟩
  · exact ⟨_, rfl⟩
theorem shaped_cells (hs : w.ShapedOpen P) {g : Nat} {G : Global} (hg : P.globals[g]? = some G) : ∃ cs, w.heap[g]? = some (.cells cs G.type) := by
  obtain ⟨zero, hz⟩ := begin_row hg
  have hlt : g < P.globals.size := by
    rcases Nat.lt_or_ge g P.globals.size with h | h
    · exact h
    · rw [Array.getElem?_eq_none h] at hg; cases hg
  obtain ⟨cs, h1, _⟩ := hs.1 g zero G.type hlt hz
  exact ⟨cs, h1⟩
/-- A listed variable's cells. -/
theorem laid_vars : ∀ {laid : List (String × DataW Unit)} {ps : List MemPlace}, DataW.LaidVars P w laid ps → ∀ {nm : String} {d : DataW Unit}, (nm, d) ∈ laid →
    ∃ g t cs fuel p, P.globalNamed nm = some g ∧ (P.globals[g]?).map (·.type) = some t ∧ w.var? P nm = some cs ∧ DataW.trod (fun _ => ()) P w 0 (fun _ => true) false fuel t cs.toList = some (d, p)
  | [], _, _, _, _, hm => absurd hm (List.not_mem_nil)
  | (n, d0) :: r, ps, h, nm, d, hm => by
    obtain ⟨g, t, cs, fuel, p, q, h1, h2, h3, h4, h5, _⟩ := h
    cases hm with
    | head => exact ⟨g, t, cs, fuel, p, h1, h2, h3, h4⟩
    | tail _ hm => exact laid_vars h5 hm
theorem laid_cells (hs : w.ShapedOpen P) {laid : List (String × DataW Unit)} (hL : laidMet P laid w) {nm : String} {d : DataW Unit} (hm : (nm, d) ∈ laid) {g : Nat} {G : Global} (hg : P.globalNamed nm = some g) (hG : P.globals[g]? = some G)
    {n : Nat} {l : List Value} (hl : flatD P n G.type d = some l) : w.heap[g]? = some (.cells ⟨l⟩ G.type) := by
  obtain ⟨ps, h1, _⟩ := hL
  obtain ⟨g', t, cs, fuel, p, e1, e2, e3, e4⟩ := laid_vars h1 hm
  rw [hg] at e1; cases e1
  rw [hG] at e2; cases e2
  obtain ⟨cs', e5⟩ := shaped_cells hs hG
  have e6 : w.var? P nm = some cs' := by simp only [World.var?, hg, Option.bind_some, e5]
  rw [e6] at e3; cases e3
  have := flatD_ok n fuel G.type cs.toList l _ e4 hl
  rw [e5, ← this]

/-- The globals at their own places. -/
def globR (ng : Nat) : Ren := fun i => if i < ng then some ⟨i, 0, 0⟩ else none
/-- What a run by itself asks of the globals. -/
def GlobOk (P : Program) (w : World) : List (Nat × CB) → Prop
  | [] => True
  | (g, b) :: l => (∃ vs e, b = .cells vs e 0 0 true ∧ vs.all plainCell = true ∧ w.heap[g]? = some (.cells ⟨vs⟩ e)) ∧ GlobOk P w l
theorem globOk_mem : ∀ {l : List (Nat × CB)}, GlobOk P w l → ∀ {g : Nat} {b : CB}, (g, b) ∈ l → ∃ vs e, b = .cells vs e 0 0 true ∧ vs.all plainCell = true ∧ w.heap[g]? = some (.cells ⟨vs⟩ e)
  | [], _, _, _, hm => absurd hm (List.not_mem_nil)
  | _ :: _, h, _, _, hm => by
    cases hm with
    | head => exact h.1
    | tail _ hm => exact globOk_mem h.2 hm
theorem start_ok {τ : Tab} {M : Memo} (hin : M.ins = []) (hg : GlobOk P w M.gs) (hsz : τ.ng ≤ w.heap.size) : Hkt P τ (globR τ.ng) (startH τ M) w := by
  have hnx : (startH τ M).nx = τ.ng := by simp [startH, hin]
  have ht : (startH τ M).t = layG M.gs := by simp [startH, hin, layC]
  refine ⟨⟨fun id hid => ?_, fun id pl hb e eH => ?_, fun id pl e => ?_, fun i j pi pj hi ei ej eHi hij hbb => ?_, fun g hlt => ?_⟩, by rw [hnx]; exact Nat.le_refl _⟩
  · rw [hnx] at hid
    simp only [globR]; rw [if_neg (by omega)]
  · simp only [globR] at e
    split at e
    case isFalse => cases e
    cases e
    rw [ht] at eH
    obtain ⟨b, hm, rfl⟩ := layG_get _ _ _ eH
    obtain ⟨vs, e, rfl, hp, hw⟩ := globOk_mem hg hm
    have hl : LR (globR τ.ng) vs vs := LR.plain_refl hp
    refine ⟨⟨vs⟩, (0, 0), hw, by simp, fun i hi => by simp, fun i v hv => ?_, .inl rfl, fun _ => ⟨rfl, by simp⟩⟩
    rw [Ev.T.get_laid] at hv
    by_cases hi' : 0 ≤ i ∧ i < 0 + vs.length
    · rw [if_pos hi'] at hv
      simp only [Nat.sub_zero] at hv
      obtain ⟨v', h1, h2⟩ := hl.get hv
      exact ⟨by omega, v', by simpa using h1, h2⟩
    · rw [if_neg hi', Ev.T.get_nil] at hv; cases hv
  · simp only [globR] at e
    split at e
    case isFalse => cases e
    cases e
    show id < w.heap.size
    omega
  · simp only [globR] at ei ej
    split at ei
    case isFalse => cases ei
    split at ej
    case isFalse => cases ej
    cases ei; cases ej
    simp only at hbb
    omega
  · simp only [globR]; rw [if_pos hlt]
end
end Go.Ev
end

section
/-
  A law without inputs, and the chapter's example: what their runs by themselves say of a real call.
-/
namespace Go.Ev
section
variable {P : Program} {τ : Tab}
/-- The world behind: what was there is there. -/
structure Grown' (w w' : World) : Prop where
  size : w.heap.size ≤ w'.heap.size
  same : ∀ b, b < w.heap.size → w'.heap[b]? = w.heap[b]?
  os : w'.os = w.os
  out : w'.output = w.output
  tape : w'.tape = w.tape
theorem Grown'.kept {w w' : World} (h : Grown' w w') (may : MemPlace → Prop) : w.keptBut w' may := by
  refine ⟨h.os, h.out, fun i hi => ?_⟩
  rw [h.same i hi]
  split
  · rename_i h1 h2; rw [h1] at h2; cases h2; exact ⟨rfl, rfl, rfl, fun _ _ => rfl⟩
  · rename_i h1 h2; rw [h1] at h2; cases h2; exact .inr ⟨rfl, rfl⟩
  · rfl
theorem memo_true {f : FuncId} {M : Memo} (hM : MemoOk P τ f M) (ha : M.args = []) (hr : M.res = .bool true) (hin : M.ins = []) {fn : Func} (hf : P.funcs[f]? = some fn) (hn : (fn.name == "runtime.NumGoroutine") = false) {c : Code} (hb : fn.body = some c)
    {w : World} (hg : GlobOk P w M.gs) (hsz : τ.ng ≤ w.heap.size) :
    CallsIn Fence.wide 0 P f #[] w fun e w' => e = .returned (.bool true) ∧ Grown' w w' := by
  have h1 := hM.go (globR τ.ng) w [] (start_ok hin hg hsz) (by rw [ha]; exact .nil)
  have hrun : (callFunc f ⟨[]⟩).run P w = .ok (.enter f ⟨[]⟩) w := Go.Proofs.enters_of hf hn hb _ _
  unfold Ans at h1
  rw [hrun] at h1
  refine CallsIn.mono h1 fun e w' he => ?_
  obtain ⟨ρ', v', rfl, hv, _, hs⟩ := he
  rw [hr] at hv
  cases hv
  exact ⟨rfl, hs.size, fun b hb => hs.chg b hb fun id pl hl => (by cases hl), hs.os, hs.out, hs.tape⟩
theorem GlobOk.grown {w w' : World} (hz : w.heap.size ≤ w'.heap.size) (hb : ∀ b, b < w.heap.size → w'.heap[b]? = w.heap[b]?) : ∀ {l : List (Nat × CB)}, GlobOk P w l → GlobOk P w' l
  | [], _ => trivial
  | (g, b) :: l, h => by
    obtain ⟨⟨vs, e, h1, h2, h3⟩, h4⟩ := h
    refine ⟨⟨vs, e, h1, h2, ?_⟩, GlobOk.grown hz hb h4⟩
    rw [hb g ?_]
    · exact h3
    · rcases Nat.lt_or_ge g w.heap.size with h | h
      · exact h
      · rw [Array.getElem?_eq_none h] at h3; cases h3
theorem LR.plain_reflV {ρ : Ren} : ∀ {l : List Value}, l.all plainV = true → LR ρ l l
  | [], _ => .nil
  | v :: l, h => by
    simp only [List.all_cons, Bool.and_eq_true] at h
    exact .cons (VR.plain_refl h.1) (LR.plain_reflV h.2)
/-- A law whose inputs hold no addresses. -/
theorem memo_true_args {f : FuncId} {M : Memo} (hM : MemoOk P τ f M) (ha : M.args.all plainV = true) (hr : M.res = .bool true) (hin : M.ins = []) {fn : Func} (hf : P.funcs[f]? = some fn) (hn : (fn.name == "runtime.NumGoroutine") = false) {c : Code} (hb : fn.body = some c)
    {w : World} (hg : GlobOk P w M.gs) (hsz : τ.ng ≤ w.heap.size) :
    CallsIn Fence.wide 0 P f ⟨M.args⟩ w fun e w' => e = .returned (.bool true) ∧ Grown' w w' := by
  have h1 := hM.go (globR τ.ng) w M.args (start_ok hin hg hsz) (LR.plain_reflV ha)
  have hrun : (callFunc f ⟨M.args⟩).run P w = .ok (.enter f ⟨M.args⟩) w := Go.Proofs.enters_of hf hn hb _ _
  unfold Ans at h1
  rw [hrun] at h1
  refine CallsIn.mono h1 fun e w' he => ?_
  obtain ⟨ρ', v', rfl, hv, _, hs⟩ := he
  rw [hr] at hv
  cases hv
  exact ⟨rfl, hs.size, fun b hb => hs.chg b hb fun id pl hl => (by cases hl), hs.os, hs.out, hs.tape⟩
theorem goes_no {P : Program} (h : P.funcs.any Func.goes = false) (f : FuncId) : P.goes f = false := by
  have hg : ∀ g : FuncId, (P.funcs[g]?).any Func.goes = false := fun g => by
    cases hf : P.funcs[g]? with
    | none => rfl
    | some fn =>
      rw [Array.any_eq_false] at h
      obtain ⟨hlt, he⟩ := Array.getElem?_eq_some_iff.1 hf
      have := h g hlt
      rw [he] at this
      simpa using this
  unfold Program.goes
  rw [h, Bool.and_false, Bool.or_false, List.any_eq_false]
  intro g _
  simp [hg g]
theorem goesBy_no {P : Program} {c : OpenClaim} (h : P.funcs.any Func.goes = false) (hs : c.start = .entering) : false = c.goesBy P := by
  unfold OpenClaim.goesBy Program.goesAt Program.goesFrom
  rw [hs]
  cases P.funcNamed c.func with
  | none => rfl
  | some f => simp [goes_no h f]
end
end Go.Ev
end

section
/-
  A run by itself without arguments that hands back a map of its own: what it says of a real call.
-/
namespace Go.Ev
section
variable {P : Program} {τ : Tab}
theorem ER.plain_all {ρ : Ren} : ∀ {l l' : List MapEntry}, ER ρ l l' → (∀ e ∈ l, plainV e.key = true ∧ plainV e.val = true) → l' = l
  | _, _, .nil, _ => rfl
  | e :: _, e' :: _, .cons a b c r, h => by
    have h1 := a.plainV_eq (h _ List.mem_cons_self).1
    have h2 := b.plainV_eq (h _ List.mem_cons_self).2
    rw [ER.plain_all r fun e he => h e (List.mem_cons_of_mem _ he)]
    obtain ⟨k, v, n⟩ := e
    obtain ⟨k', v', n'⟩ := e'
    simp only at h1 h2 c
    subst h1 h2 c
    rfl
theorem memo_map {f : FuncId} {M : Memo} {es : List MapEntry} {ck : Nat} (hM : MemoOk P τ f M) (ha : M.args = []) (hin : M.ins = []) (hr : M.res = .map (some τ.ng)) (ho : M.outs = [.map es ck]) (hes : ∀ e ∈ es, plainV e.key = true ∧ plainV e.val = true)
    {fn : Func} (hf : P.funcs[f]? = some fn) (hn : (fn.name == "runtime.NumGoroutine") = false) {c : Code} (hb : fn.body = some c) {w : World} (hg : GlobOk P w M.gs) (hsz : τ.ng ≤ w.heap.size) :
    CallsIn Fence.wide 0 P f #[] w fun e w' => ∃ mb, e = .returned (.map (some mb)) ∧ w.heap.size ≤ mb ∧ mb < w'.heap.size ∧ w'.heap[mb]? = some (.map ⟨es⟩ ck) ∧ Grown' w w' := by
  have h1 := hM.go (globR τ.ng) w [] (start_ok hin hg hsz) (by rw [ha]; exact .nil)
  have hrun : (callFunc f ⟨[]⟩).run P w = .ok (.enter f ⟨[]⟩) w := Go.Proofs.enters_of hf hn hb _ _
  unfold Ans at h1
  rw [hrun] at h1
  refine CallsIn.mono h1 fun e w' he => ?_
  obtain ⟨ρ', v', rfl, hv, hk, hs⟩ := he
  rw [hr] at hv
  cases hv with
  | @map id pl hpl =>
    have hget : (endH τ M).t.get τ.ng = some (.map es ck) := by
      unfold endH
      simp only [ho, hin, List.length_nil, Nat.add_zero, layC]
      exact T.get_ins_same _ _ _
    obtain ⟨es', hw', her⟩ := hk.1.hr τ.ng pl _ hpl hget
    have hE := ER.plain_all her hes
    refine ⟨pl.b, rfl, ?_, (Array.getElem?_eq_some_iff.1 hw').1, ?_, ⟨hs.size, fun b hb => hs.chg b hb fun id pl hl => (by cases hl), hs.os, hs.out, hs.tape⟩⟩
    · rcases hs.new τ.ng pl (by rw [hin]; exact Nat.le_refl _) hpl with h | ⟨j, pj, hj, _⟩
      · exact h
      · cases hj
    · rw [hw']
      congr 2
      apply Array.toList_inj.1
      rw [hE]
end
end Go.Ev
end
