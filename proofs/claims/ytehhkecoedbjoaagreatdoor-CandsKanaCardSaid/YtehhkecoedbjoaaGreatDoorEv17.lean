/-
  The evaluator of closed runs (a part): EvP, EvS38, EvS39, EvS40, EvS41, EvS42, EvS43.
-/
import Derived.Test.YtehhkecoedbjoaaGreatDoorEv1
import Derived.Test.YtehhkecoedbjoaaGreatDoorEv15
import Derived.Laws.Externs
import Derived.Lib.MakeNoZero
import Derived.Lib.Bytealg
import Derived.RecoverIn
import Derived.TacticsInMore
import Derived.Test.YtehhkecoedbjoaaGreatDoorEv16
import Derived.KernelRfl
set_option linter.unusedVariables false
set_option linter.unusedSimpArgs false
set_option linter.unusedSectionVars false
section
/-
  The tables, made of the program.
-/
namespace Go.Ev
def resolved (ts : List TypeInfo) (i : TypeInfo) : Option TypeDesc :=
  match i.desc with
  | .named _ u => (ts[u]?).map (·.desc)
  | d => some d
noncomputable def mapO {α β : Type} (f : α → Option β) (t : T α) : T β :=
  T.rec (motive := fun _ => T β) .nil (fun _ v _ l r => .node l (v.bind f) r) t
noncomputable def mkTab (P : Program) (ex : T ExtK) (eqs : List Nat) (ng : Nat) : Tab := {
  fn := T.table 14 P.funcs.toList
  inf := T.table 14 P.types.toList
  ds := mapO (fun i => match i.desc with | .named _ u => ((T.table 14 P.types.toList).get u).map (·.desc) | d => some d) (T.table 14 P.types.toList)
  ex := ex
  eqOk := fun t => eqs.any (Nat.beq t)
  ng := ng }
end Go.Ev
end

section
/-
  From the program's check to the tables.
-/
namespace Go.Ev
section
theorem bind_ok {α β : Type} {x : Except String α} {f : α → Except String β} {b : β} (h : (x >>= f) = .ok b) : ∃ a, x = .ok a ∧ f a = .ok b := by
  cases x with
  | error e => cases h
  | ok a => exact ⟨a, rfl, h⟩
theorem require_ok {b : Bool} {m : String} {u : Unit} (h : CheckCode.require b m = .ok u) : b = true := by
  unfold CheckCode.require at h
  cases b with
  | true => rfl
  | false => cases h
theorem mapErr_ok {α : Type} {x : Except String α} {f : String → String} {a : α} (h : x.mapError f = .ok a) : x = .ok a := by
  cases x with
  | error e => cases h
  | ok b => cases h; rfl
theorem forM_ok {α : Type} {f : α → Except String Unit} : ∀ {l : List α}, l.forM f = .ok () → ∀ x ∈ l, f x = .ok ()
  | [], _, _, hx => absurd hx (List.not_mem_nil)
  | a :: l, h, x, hx => by
    replace h : (f a >>= fun _ => l.forM f) = .ok () := h
    obtain ⟨⟨⟩, h1, h2⟩ := bind_ok h
    cases hx with
    | head => exact h1
    | tail _ hx => exact forM_ok h2 x hx
theorem cr_of_code {P : Program} {f : Func} : ∀ (c : Code) (b l : List Nat), CheckCode.code P f b l c = .ok () → CR P c := by
  intro c
  induction c with
  | region id ops draw =>
    intro b l h hd
    subst hd
    simp only [CheckCode.code, CheckCode.region] at h
    obtain ⟨_, _, h⟩ := bind_ok h
    obtain ⟨_, _, h⟩ := bind_ok h
    exact require_ok h
  | seq x y ihx ihy =>
    intro b l h
    simp only [CheckCode.code] at h
    obtain ⟨⟨⟩, h1, h2⟩ := bind_ok h
    exact ⟨ihx _ _ h1, ihy _ _ h2⟩
  | cond cnd x y ihx ihy =>
    intro b l h
    simp only [CheckCode.code] at h
    obtain ⟨_, _, h⟩ := bind_ok h
    obtain ⟨⟨⟩, h1, h2⟩ := bind_ok h
    exact ⟨ihx _ _ h1, ihy _ _ h2⟩
  | block id c ih => intro b l h; simp only [CheckCode.code] at h; exact ih _ _ h
  | loop c ih => intro b l h; simp only [CheckCode.code] at h; exact ih _ _ h
  | scope c ih => intro b l h; simp only [CheckCode.code] at h; exact ih _ _ h
  | rangeFunc g ps x y ihx ihy =>
    intro b l h
    simp only [CheckCode.code] at h
    obtain ⟨_, _, h⟩ := bind_ok h
    obtain ⟨_, _, h⟩ := bind_ok h
    obtain ⟨_, _, h⟩ := bind_ok h
    obtain ⟨⟨⟩, h1, h2⟩ := bind_ok h
    exact ⟨ihx _ _ h1, ihy _ _ h2⟩
  | _ => intro b l h; exact trivial
theorem cr_of_check {P : Program} (h : P.check = .ok ()) {f : FuncId} {fn : Func} {c : Code} (hf : P.funcs[f]? = some fn) (hb : fn.body = some c) : CR P c := by
  unfold Program.check at h
  obtain ⟨⟨⟩, h1, _⟩ := bind_ok h
  have hlt : f < P.funcs.size := by
    rcases Nat.lt_or_ge f P.funcs.size with h | h
    · exact h
    · rw [Array.getElem?_eq_none h] at hf; cases hf
  have h2 := forM_ok h1 f (List.mem_range.2 hlt)
  unfold CheckCode.funcAt at h2
  rw [hf] at h2
  replace h2 := mapErr_ok h2
  unfold CheckCode.func at h2
  obtain ⟨_, _, h2⟩ := bind_ok h2
  obtain ⟨_, _, h2⟩ := bind_ok h2
  obtain ⟨_, _, h2⟩ := bind_ok h2
  rw [hb] at h2
  simp only at h2
  obtain ⟨_, _, h2⟩ := bind_ok h2
  obtain ⟨⟨⟩, h3, _⟩ := bind_ok h2
  exact cr_of_code c _ _ h3
end
end Go.Ev
end

section
/-
  The library's own functions.
-/
namespace Go.Ev
section
variable {P : Program} {τ : Tab}
def ExtIs (P : Program) (f : FuncId) (e : Array Value → Sem Value) : Prop :=
  ∃ fn, P.funcs[f]? = some fn ∧ (fn.name == "runtime.NumGoroutine") = false ∧ fn.body.isNone = true ∧ Extern.findNext fn = none ∧ Extern.find fn = some e
def ExtFits (P : Program) (f : FuncId) : ExtK → Prop
  | .noEscape => ExtIs P f Extern.AbiNoEscape.same
  | .indexByte => ExtIs P f Extern.BytealgIndexByte.indexByte
  | .count => ExtIs P f Extern.BytealgCount.count
  | .makeNoZero e => ∃ ps t, ExtIs P f (Extern.BytealgMakeNoZero.makeNoZero ps #[t]) ∧ P.underlying t = some (.slice e) ∧ ∃ i, P.info? e = some i ∧ i.size = 1
  | _ => False

theorem ext_run {f : FuncId} {e : Array Value → Sem Value} (h : ExtIs P f e) {args : Array Value} {w w' : World} {v : Value} (hr : (e args).run P w = .ok v w') :
    (callFunc f args).run P w = .ok (.value v) w' := by
  obtain ⟨fn, h1, h2, h3, h4, h5⟩ := h
  rw [run_callFunc_extern h1 h2 h3 h4 h5, hr]; rfl

theorem find_idx (s : ByteArray) (c : UInt8) : firstIdx s c = (match s.data.toList.findIdx? (· == c) with | some i => (i : Int) | none => -1) := by
  have hg : ∀ i, i < s.size → s[i]! = s.data.toList[i]?.getD default := by
    intro i hi
    have hi' : i < s.data.toList.length := by simpa using hi
    rw [getElem!_pos s i hi, List.getElem?_eq_getElem hi']
    rfl
  have key : (List.range s.size).find? (fun i => s[i]! == c) = s.data.toList.findIdx? (· == c) := by
    have hsz : s.size = s.data.toList.length := by simp
    cases hf : s.data.toList.findIdx? (· == c) with
    | none =>
      rw [List.findIdx?_eq_none_iff] at hf
      rw [List.find?_eq_none]
      intro i hi
      have hi := List.mem_range.1 hi
      rw [hg i hi, List.getElem?_eq_getElem (by omega)]
      have := hf s.data.toList[i] (List.getElem_mem _)
      simpa using this
    | some k =>
      rw [List.findIdx?_eq_some_iff_getElem] at hf
      obtain ⟨hk, h1, h2⟩ := hf
      rw [List.find?_range_eq_some]
      refine ⟨?_, List.mem_range.2 (by omega), ?_⟩
      · rw [hg k (by omega), List.getElem?_eq_getElem hk]; exact h1
      · intro j hj
        rw [hg j (by omega), List.getElem?_eq_getElem (by omega)]
        have := h2 j hj
        simpa using this
  unfold firstIdx
  rw [key]
  cases s.data.toList.findIdx? (· == c) <;> rfl

theorem cnt_foldl (c : UInt8) : ∀ (l : List UInt8) (n : Nat), l.foldl (fun n x => if x == c then n + 1 else n) n = n + Lib.countByte l c
  | [], n => by simp [Lib.countByte]
  | b :: l, n => by
    rw [List.foldl_cons, cnt_foldl c l]
    unfold Lib.countByte
    rw [List.count_cons]
    split <;> simp_all <;> omega
theorem ext_ok (T : TabOk P τ) {f : FuncId} {e : ExtK} (hf : ExtFits P f e) {args args' : List Value} {h h' : Hp} {v : Value} {ρ : Ren} {w : World} (hk : Hkt P τ ρ h w) (hl : LR ρ args args') (hu : extB τ e args h = some (v, h')) :
    Goes P τ ρ h w (callFunc f ⟨args'⟩) v h' := by
  unfold extB at hu
  split at hu
  · cases hu
    cases hl with | cons hx hl => cases hl with | nil =>
    exact Goes.pure hk (ext_run hf rfl) hx
  · rename_i s c
    cases hl with | cons hx hl => cases hl with | cons hy hl => cases hl with | nil =>
    cases hx; cases hy
    have hr := run_indexByte_string (P := P) s c w
    rw [find_idx] at hr
    have hc : c.toNat.toUInt8 = UInt8.ofNat c.toNat := rfl
    rw [hc] at hr
    split at hu
    · rename_i i hi
      rw [hi] at hr
      cases hu
      exact Goes.pure hk (ext_run hf hr) (.int _ _)
    · rename_i hi
      rw [hi] at hr
      cases hu
      exact Goes.pure hk (ext_run hf hr) (.int _ _)
  · rename_i s c
    cases hl with | cons hx hl => cases hl with | cons hy hl => cases hl with | nil =>
    cases hx; cases hy
    cases hu
    have hr := Lib.run_countString (P := P) s c w
    have hc : Lib.countByte s.data.toList c.toNat.toUInt8 = s.data.toList.foldl (fun n x => if x == UInt8.ofNat c.toNat then n + 1 else n) 0 := (by rw [cnt_foldl, Nat.zero_add])
    rw [hc] at hr
    exact Goes.pure hk (ext_run hf hr) (.int _ _)
  · rename_i e n
    replace hu := bifO hu; obtain ⟨hb, hu⟩ := hu
    have hb := bigNo_le hb
    cases hu
    cases hl with | cons hx hl => cases hl with | nil =>
    cases hx
    obtain ⟨ps, t, h1, h2, i, h3, h4⟩ := hf
    obtain ⟨cs, hr, hn, _⟩ := Lib.run_makeNoZero (P := P) w ps t e h2 n (by omega)
    have hle := Ren.le_upd (hk.1.fresh h.nx (Nat.le_refl _)) ⟨w.heap.size, 0, cs.size - n⟩
    obtain ⟨k1, k2⟩ := hk.drew.drew.alloc (.cells cs e) (.cells .nil n e 0 0 false) (cs.size - n) (by
      refine ⟨cs, (0, 0), getElem?_alloc_new w.drew.drew _, by simp; omega, fun i' hi' => ?_, fun i v hv => ?_, .inl rfl, fun h => (by cases h)⟩
      · rw [h3] at hi'; cases hi'; rw [h4]; simp; omega
      · rw [Ev.T.get_nil] at hv; cases hv)
    refine Goes.made (ext_run h1 hr) (slice_new (Ren.upd_same _ _) rfl n cs.size (by simp; omega)) k1 ?_ (WS.le_refl _)
    exact k2.undrew.undrew
  · cases hu
end
end Go.Ev
end

section
/-
  A deferred function that asks recover, entered at a return: it goes back.
-/
namespace Go.Ev
section
variable {P : Program} {τ : Tab}
/-- The function asks recover first, and goes back if there is nothing. -/
def AsksRecover (P : Program) (f : FuncId) : Prop :=
  ∃ (fn : Func) (t u s : Tmp) (T : TypeId) (b : Code) (i0 i1 i2 i3 ty0 ty1 ty2 T2 : Nat) (p0 p1 p2 : String) (e0 e1 e2 : Array Edge) (ats : Array TypeId),
    P.funcs[f]? = some fn ∧ (fn.name == "runtime.NumGoroutine") = false ∧ fn.results = #[] ∧ t < fn.ntmps ∧ u < fn.ntmps ∧ P.underlying T = some (.interface #[]) ∧
    fn.body = some (.seq (.region i0 #[⟨some t, .call ⟨.builtin .recover, #[], ats⟩, ty0, p0, e0, none⟩] false)
      (.block i1 (.seq (.region i2 #[⟨some u, .binOp .eql T (.tmp t) (.const .nilIface) T2, ty1, p1, e1, none⟩] false)
        (.cond (.tmp u) (.region i3 #[⟨some s, .assign (.tmp t), ty2, p2, e2, none⟩] false) b))))
theorem dv_ok (T : TabOk P τ) {f : FuncId} (hA : AsksRecover P f) (args' : Array Value) (w : World) :
    (callFunc f args').run P w = .ok (.enter f args') w ∧
    CallsDIn Fence.wide 0 P f args' .returning w fun e u' w' => (∃ v, e = .returned v) ∧ settle u' = .returning ∧ w' = w := by
  obtain ⟨fn, t, u, s, Ty, b, i0, i1, i2, i3, ty0, ty1, ty2, T2, p0, p1, p2, e0, e1, e2, ats, hf, hnm, hres, ht, hu, hT, hb⟩ := hA
  have hnm' : fn.name ≠ "runtime.NumGoroutine" := by simpa using hnm
  refine ⟨by simp [callFunc, hf, hnm', hb, Sem.run], ?_⟩
  refine callsDIn_of_wpSIn hf hb (by simp [Fence.wide]) fun c₀ cs hc => ?_
  apply wpSIn_seq
  apply wpSIn_region
  have hsz0 : fn.ntmps ≤ (args' ++ Array.replicate (fn.ntmps - args'.size) undef).size := by rw [Array.size_append, Array.size_replicate]; omega
  have hsz : t < (args' ++ Array.replicate (fn.ntmps - args'.size) undef).size := Nat.lt_of_lt_of_le ht hsz0
  have hsz2 : u < (args' ++ Array.replicate (fn.ntmps - args'.size) undef).size := Nat.lt_of_lt_of_le hu hsz0
  generalize (args' ++ Array.replicate (fn.ntmps - args'.size) undef) = tm at *
  simp [wpOpsSIn, go_sem, recoverD, hc, Exit.thenS]
  refine wpSIn_of_wpIn rfl (wpIn_block (wpIn_seq (wpIn_region ?_)))
  simp [wpOpsIn, go_sem, Exit.then, hsz]
  have hbin : (binOp .eql Ty .nilIface .nilIface).run P w = .ok (.bool true) w := by
    have := nilIface_eq (w := w) hT
    simp only [binOp, Op.equal, Sem.run_bind]
    simp [Op.equal, this]
  rw [hbin]
  simp only [Result.andThen_ok, Oper.uponIn_value]
  refine wpIn_cond_true (by simp [Act.eval, Act.put, hsz2]) (wpIn_region ?_)
  simp [wpOpsIn, go_sem, Exit.inBlock, bodyPostS, results, hres]
  exact ⟨.returning, by cases c₀; simp_all, rfl⟩
theorem dvOk_of (T : TabOk P τ) {dv : FuncId → Option (List Value → Hp → Option Hp)} (h : ∀ f g, dv f = some g → AsksRecover P f ∧ g = fun _ h => some h) : DvOk P τ dv := by
  intro f g hg args args' h0 h' ρ w hk hl hu
  obtain ⟨hA, rfl⟩ := h f g hg
  cases hu
  obtain ⟨h1, h2⟩ := dv_ok T hA ⟨args'⟩ w
  refine ⟨h1, h2.mono ?_⟩
  rintro e u' w' ⟨h3, h4, rfl⟩
  exact ⟨h3, h4, ρ, hk, RF.refl hk⟩
end
end Go.Ev
end

section
/-
  The tables, made of the program: they are in order.
-/
namespace Go.Ev
section
variable {P : Program}
theorem mapO_get {α β : Type} (f : α → Option β) : ∀ (t : T α) (i : Nat), (mapO f t).get i = (t.get i).bind f := by
  intro t
  induction t with
  | nil => intro i; rfl
  | node l v r ihl ihr =>
    intro i
    show (T.node (mapO f l) (v.bind f) (mapO f r)).get i = _
    cases i with
    | zero => rw [T.get_zero, T.get_zero]
    | succ j =>
      rw [T.get_succ, T.get_succ]
      by_cases hj : j % 2 = 0
      · rw [if_pos hj, if_pos hj]; exact ihl _
      · rw [if_neg hj, if_neg hj]; exact ihr _

theorem info_of {t : TypeId} {i : TypeInfo} (h : P.types.toList[t]? = some i) : P.info? t = some i := by
  have h1 : P.types[t]? = some i := by simpa using h
  have h2 : ¬ P.types.size ≤ t := fun hh => by rw [Array.getElem?_eq_none hh] at h1; cases h1
  have : P.info? t = P.types[t]? := by simp [Tables.info?, h2]
  rw [this, h1]
theorem tab_ok {ex : T ExtK} {eqs : List Nat} {ng : Nat} (hn : P.funcs.toList.all (fun x => !x.body.isSome || !(x.name == "runtime.NumGoroutine")) = true)
    (he : eqs.all (fun t => !P.stoodInHeld t && !P.eqGuardType P.depth t) = true) (hm : P.follows .mixedOrders = true) : TabOk P (mkTab P ex eqs ng) := {
  fn := fun f x hx => by
    replace hx : (T.table 14 P.funcs.toList).get f = some x := hx
    have h1 := T.get_table _ _ _ _ hx
    refine ⟨by simpa using h1, fun hb => ?_⟩
    have h2 := List.all_eq_true.1 hn x (List.mem_of_getElem? h1)
    rw [hb] at h2
    simpa using h2
  ds := fun t d hd => by
    replace hd : (mapO _ (T.table 14 P.types.toList)).get t = some d := hd
    rw [mapO_get] at hd
    cases hi : (T.table 14 P.types.toList).get t with
    | none => rw [hi] at hd; cases hd
    | some i =>
      rw [hi] at hd
      have h1 := T.get_table _ _ _ _ hi
      have h2 : P.info? t = some i := info_of h1
      unfold Program.underlying
      rw [h2]
      simp only [Option.bind_some] at hd
      obtain ⟨dsc⟩ := i
      cases dsc with
      | named nm u =>
        simp only at hd ⊢
        cases hu : (T.table 14 P.types.toList).get u with
        | none => rw [hu] at hd; cases hd
        | some i =>
          rw [hu] at hd
          have h1 := T.get_table _ _ _ _ hu
          have h2 : P.info? u = some i := info_of h1
          rw [h2]; exact hd
      | _ => exact hd
  inf := fun t i hi => by
    replace hi : (T.table 14 P.types.toList).get t = some i := hi
    have h1 := T.get_table _ _ _ _ hi
    exact info_of h1
  eq := fun t ht => by
    replace ht : eqs.any (Nat.beq t) = true := ht
    obtain ⟨x, hx, h1⟩ := List.any_eq_true.1 ht
    have := Nat.eq_of_beq_eq_true h1
    subst this
    have := List.all_eq_true.1 he _ hx
    simpa using this
  mixed := hm }
end
end Go.Ev
end

section
/-
  What is summed up, put together.
-/
namespace Go.Ev
def findA {α : Type} (f : Nat) : List (Nat × α) → Option α
  | [] => none
  | (g, a) :: l => bif Nat.beq g f then some a else findA f l
noncomputable def sumsC (τ : Tab) (sorts : List (Nat × Nat)) (dvs : List Nat) (hks : List (Nat × Nat × HookF)) (ms : List (Nat × List Memo)) : Sums := {
  ov := fun f => match findA f ms with
    | some l => some (memoB τ l)
    | none => match findA f sorts with
      | some e => some (sortB τ e)
      | none => none
  nd := fun _ => none
  dv := fun f => bif dvs.any (Nat.beq f) then some (fun _ h => some h) else none
  hk := fun f => match findA f hks with
    | some (i, x) => some (fun j => bif Nat.beq j i then some x else none)
    | none => none }
/-- A piece of a function's code. -/
noncomputable def atC (fn : Func) (i : Nat) : Code := match fn.body with
  | some c => (flatC c).getD i .skip
  | none => .skip
section
variable {P : Program} {τ : Tab}
theorem findA_mem {α : Type} {f : Nat} {a : α} : ∀ {l : List (Nat × α)}, findA f l = some a → (f, a) ∈ l
  | (g, b) :: l, h => by
    simp only [findA] at h
    cases hb : Nat.beq g f with
    | true =>
      rw [hb] at h
      have := Nat.eq_of_beq_eq_true hb
      subst this
      cases h; exact List.mem_cons_self
    | false => rw [hb] at h; exact List.mem_cons_of_mem _ (findA_mem h)

theorem hk_of (T : TabOk P τ) {f i : Nat} {x : HookF} {fn0 : Func} (hf : P.funcs[f]? = some fn0) (h : HookOk P τ x (atC fn0 i)) (fn : Func) (c ci : Code) (hfn : τ.fn.get f = some fn) (hb : fn.body = some c) (hci : (flatC c)[i]? = some ci) :
    HookOk P τ x ci := by
  have h1 := (T.fn _ _ hfn).1
  rw [hf] at h1; cases h1
  unfold atC at h
  rw [hb] at h
  have : (flatC c).getD i .skip = ci := by rw [List.getD_eq_getElem?_getD, hci]; rfl
  simp only [this] at h
  exact h

def SortOk (P : Program) (τ : Tab) (f e : Nat) : Prop := ∃ rk : Go.Shelf.Ren, Go.Proofs.SlLaysF0.n6 P rk ∧ rk.f 6 = f ∧ rk.t 24 = e ∧ (∀ w, (isAgg e).run P w = .ok true w) ∧ hasBody τ f = true

theorem memoB_ok {f : FuncId} {call : CallF} {args args' : List Value} {h h' : Hp} {v : Value} {ρ : Ren} {w : World} (hk : Hkt P τ ρ h w) (hl : LR ρ args args') (k kp : Value → Hp → RR) (outs : List Out) (hkv : k v h' = some outs) :
    ∀ {l : List Memo}, (∀ M ∈ l, MemoOk P τ f M) → memoB τ l call args h = some (v, h') → Ans P (callFunc f ⟨args'⟩) w (Post P τ ρ w h k kp outs)
  | [], _, hu => by cases hu
  | M :: l, hM, hu => by
    simp only [memoB] at hu
    cases h1 : memo1 τ M args h with
    | some r =>
      rw [h1] at hu
      cases hu
      exact memo_use (hM M List.mem_cons_self) hk hl h1 k kp outs hkv
    | none =>
      rw [h1] at hu
      exact memoB_ok hk hl k kp outs hkv (fun M hm => hM M (List.mem_cons_of_mem _ hm)) hu

structure CfgOk (P : Program) (τ : Tab) (sorts : List (Nat × Nat)) (dvs : List Nat) (hks : List (Nat × Nat × HookF)) : Prop where
  sorts : ∀ p ∈ sorts, SortOk P τ p.1 p.2
  dvs : ∀ f ∈ dvs, AsksRecover P f
  hks : ∀ p ∈ hks, ∃ fn, P.funcs[p.1]? = some fn ∧ HookOk P τ p.2.2 (atC fn p.2.1)
  ex : ∀ f e, τ.ex.get f = some e → ExtFits P f e
  chk : P.check = .ok ()

theorem sums_ok (T : TabOk P τ) {sorts : List (Nat × Nat)} {dvs : List Nat} {hks : List (Nat × Nat × HookF)} (C : CfgOk P τ sorts dvs hks) {ms : List (Nat × List Memo)} (hM : ∀ p ∈ ms, ∀ M ∈ p.2, MemoOk P τ p.1 M) :
    SumsOk P τ (sumsC τ sorts dvs hks ms) := {
  ov := fun f g hg call hc args args' h h' v ρ w hk hl hu k kp outs hkv => by
    replace hg : (match findA f ms with
      | some l => some (memoB τ l)
      | none => match findA f sorts with
        | some e => some (sortB τ e)
        | none => none) = some g := hg
    split at hg
    · rename_i l hf
      cases hg
      exact memoB_ok hk hl k kp outs hkv (hM _ (findA_mem hf)) hu
    · split at hg
      · rename_i e hf
        cases hg
        obtain ⟨rk, h1, h2, h3, h4, h5⟩ := C.sorts _ (findA_mem hf)
        simp only at h2 h3 h4 h5
        subst h2
        exact sort_ov T h1 h3 h4 h5 hc hk hl hu k kp outs hkv
      · cases hg
  dv := dvOk_of T (by
    intro f g hg
    replace hg : (bif dvs.any (Nat.beq f) then some (fun (_ : List Value) (h : Hp) => some h) else none) = some g := hg
    cases hb : dvs.any (Nat.beq f) with
    | false => rw [hb] at hg; cases hg
    | true =>
      rw [hb] at hg
      obtain ⟨x, hx, h1⟩ := List.any_eq_true.1 hb
      have := Nat.eq_of_beq_eq_true h1
      subst this
      cases hg
      exact ⟨C.dvs _ hx, rfl⟩)
  ex := fun f e he args args' h h' v ρ w hk hl hu => ext_ok T (C.ex f e he) hk hl hu
  cr := fun f fn c hf hb => cr_of_check C.chk (T.fn _ _ hf).1 hb
  hk := fun f g hg fn c hf hb i x ci hx hci => by
    replace hg : (match findA f hks with
      | some (i, x) => some (fun j => bif Nat.beq j i then some x else none)
      | none => none) = some g := hg
    split at hg
    · rename_i i0 x0 hfa
      cases hg
      simp only at hx
      cases hb2 : Nat.beq i i0 with
      | false => rw [hb2] at hx; cases hx
      | true =>
        rw [hb2] at hx
        have := Nat.eq_of_beq_eq_true hb2
        subst this
        cases hx
        obtain ⟨fn0, h1, h2⟩ := C.hks _ (findA_mem hfa)
        exact hk_of T h1 h2 fn c ci hf hb hci
    · cases hg }
/-- The machine, over all of it. -/
theorem call_ok (T : TabOk P τ) {S : Sums} (hS : SumsOk P τ S) (L n : Nat) : CallOk P τ (funKK τ S L n) := by
  rw [funKK_eq]
  exact fun_sound T hS (nd_ok T S) (fun c hc => draw_ok T hc) L n
theorem memo_ok (T : TabOk P τ) {S : Sums} (hS : SumsOk P τ S) (L n : Nat) {f : FuncId} {M : Memo} {pl : List Nat} (hu : memoRun τ (funKK τ S L n) f M pl = true) : MemoOk P τ f M :=
  memo_run T (call_ok T hS L n) hu
end
end Go.Ev
end

section
/-
  The hooks' conditions, asked of a code's pieces.
-/
namespace Go.Ev
noncomputable def regs : Code → List (Nat × Array Oper)
  | .region i ops _ => [(i, ops)]
  | .seq a b => regs a ++ regs b
  | .cond _ a b => regs a ++ regs b
  | .block _ c => regs c
  | .loop c => regs c
  | .scope c => regs c
  | _ => []
noncomputable def blks : Code → List Nat
  | .seq a b => blks a ++ blks b
  | .cond _ a b => blks a ++ blks b
  | .block i c => i :: blks c
  | .loop c => blks c
  | .scope c => blks c
  | _ => []
noncomputable def blkI (c : Code) (i : Nat) : Nat := (blks c).getD i 0
noncomputable def regI (c : Code) (i : Nat) : Nat := ((regs c).getD i (0, #[])).1
noncomputable def regO (c : Code) (i : Nat) : Array Oper := ((regs c).getD i (0, #[])).2
noncomputable def loop2 (c : Code) (t : Tmp) : Code := mapLoopC (blkI c 0) (blkI c 1) (regI c 0) (regO c 0) t (.seq (.region (regI c 1) (regO c 1) false) (.region (regI c 2) (regO c 2) false))
noncomputable def loop3 (c : Code) (t : Tmp) : Code := mapLoopC (blkI c 0) (blkI c 1) (regI c 0) (regO c 0) t (.seq (.region (regI c 1) (regO c 1) false) (.seq (.region (regI c 2) (regO c 2) false) (.region (regI c 3) (regO c 3) false)))
noncomputable def fieldOkB (τ : Tab) (t : TypeId) (i o : Nat) : Bool := match τ.ds.get t with
  | some (.struct fs) => (match fs.toList[i]? with
    | some fl => (match τ.inf.get fl.type with
      | some i2 => !(Nat.beq i2.size 0) && Nat.beq fl.offset o
      | none => false)
    | none => false)
  | _ => false
noncomputable def elemB (τ : Tab) (e n : Nat) : Bool := match τ.ds.get e, τ.inf.get e, zeroV τ e with
  | some (.struct _), some i, some z => Nat.blt 0 i.size && Nat.ble i.size 1000 && Nat.beq i.size n && Nat.beq (cellsOfV z).length i.size && (cellsOfV z).all one
  | _, _, _ => false
/-- Bytes. -/
noncomputable def bs (l : List Nat) : List Value := l.map fun n => .int .u8 (.ofNat n)
section
variable {P : Program} {τ : Tab}
theorem field_of {t : TypeId} {i o : Nat} (h : fieldOkB τ t i o = true) : ∃ fs fl i2, τ.ds.get t = some (.struct fs) ∧ fs.toList[i]? = some fl ∧ τ.inf.get fl.type = some i2 ∧ i2.size ≠ 0 ∧ fl.offset = o := by
  unfold fieldOkB at h
  split at h
  case h_2 => cases h
  rename_i fs h1
  split at h
  case h_2 => cases h
  rename_i fl h2
  split at h
  case h_2 => cases h
  rename_i i2 h3
  obtain ⟨h4, h5⟩ := and2 h
  refine ⟨fs, fl, i2, h1, h2, h3, fun hh => ?_, Nat.eq_of_beq_eq_true h5⟩
  rw [hh] at h4; cases h4
theorem elem_of {e tsl n : Nat} (h : elemB τ e n = true) (hsl : τ.ds.get tsl = some (.slice e)) : ∃ i z, ElemT τ e tsl i z ∧ i.size = n := by
  unfold elemB at h
  split at h
  case h_2 => cases h
  rename_i fs i z h1 h2 h3
  obtain ⟨h, q5⟩ := and2 h
  obtain ⟨h, q4⟩ := and2 h
  obtain ⟨h, q3⟩ := and2 h
  obtain ⟨q1, q2⟩ := and2 h
  exact ⟨i, z, ⟨⟨fs, h1⟩, hsl, h2, h3, by simpa [Nat.blt_eq] using q1, Nat.eq_of_beq_eq_true q4, q5, Nat.le_of_ble_eq_true q2⟩, Nat.eq_of_beq_eq_true q3⟩
theorem some_of {α : Type} {o : Option α} (h : o.isSome = true) : ∃ a, o = some a := Option.isSome_iff_exists.1 h

theorem full_ok (T : TabOk P τ) {c : Code} {tr ts tm : TypeId} (hc : c = loop2 c 22) (hf : FullLoop τ (regO c 0) (regO c 1) (regO c 2) tr ts tm) : HookOk P τ (hookFull 20 3 WFull) c :=
  (congrArg (HookOk P τ (hookFull 20 3 WFull)) hc).mpr (hookFull_ok T hf)
theorem nodes_ok (T : TabOk P τ) {c : Code} {e tsl n : Nat} (hc : c = loop2 c 149) (hl : NodesLoop (regO c 0) (regO c 1) (regO c 2) e tsl) (he : elemB τ e n = true) (hsl : τ.ds.get tsl = some (.slice e)) :
    HookOk P τ (hookCollect τ (imgVal n) e 147 22 WNodes) c := by
  obtain ⟨i, z, h1, rfl⟩ := elem_of he hsl
  exact (congrArg (HookOk P τ _) hc).mpr (hookNodes_ok T hl h1)
theorem hsort_ok (T : TabOk P τ) {c : Code} {e tsl tc off n : Nat} (hc : c = loop3 c 43) (hl : SortLoop τ (regO c 0) (regO c 1) (regO c 2) (regO c 3) e tsl tc off) (he : elemB τ e n = true) (hsl : τ.ds.get tsl = some (.slice e)) :
    HookOk P τ (hookCollect τ (imgKey n off) e 41 9 WSort) c := by
  obtain ⟨i, z, h1, rfl⟩ := elem_of he hsl
  exact (congrArg (HookOk P τ _) hc).mpr (hookSort_ok T hl h1)
theorem size_of {t : Nat} (h : (match τ.inf.get t with | some i => Nat.beq i.size 1 | none => false) = true) : ∃ ic, τ.inf.get t = some ic ∧ ic.size = 1 := by
  split at h
  · rename_i i hi; exact ⟨i, hi, Nat.eq_of_beq_eq_true h⟩
  · cases h
theorem s0_ok (T : TabOk P τ) (hex : ∀ f e, τ.ex.get f = some e → ExtFits P f e) (hck : P.check = .ok ()) : SumsOk P τ S0 := {
  ov := fun f g hg => by cases hg
  dv := fun f g hg => by cases hg
  ex := fun f e he args args' h h' v ρ w hk hl hu => ext_ok T (hex f e he) hk hl hu
  cr := fun f fn c hf hb => cr_of_check hck (T.fn _ _ hf).1 hb
  hk := fun f g hg => by cases hg }
theorem cap_ok (T : TabOk P τ) (hS0 : SumsOk P τ S0) {c : Code} {fc : FuncId} {fn : Func} {ts tsl t3 t3' : TypeId} {o : Nat} {tb tc td : Tmp} {A0 A1 : Array Oper} (hc : c = .region (regI c 0) (regO c 0) false)
    (hf : CapFn τ fc fn A0 A1 ts tsl t3 o) (hr : CapReg τ (regO c 0) fc tb tc td t3') : HookOk P τ (hookCap tb tc td o) c :=
  (congrArg (HookOk P τ _) hc).mpr (hookCap_ok T hS0 hf hr)
theorem l_nil {f : FuncId} : ∀ M ∈ ([] : List Memo), MemoOk P τ f M := fun M hM => absurd hM (List.not_mem_nil)
theorem l_cons {f : FuncId} {M : Memo} {l : List Memo} (h : MemoOk P τ f M) (hl : ∀ M ∈ l, MemoOk P τ f M) : ∀ N ∈ M :: l, MemoOk P τ f N := fun N hN => by
  cases hN with
  | head => exact h
  | tail _ hN => exact hl N hN
theorem ms_nil : ∀ p ∈ ([] : List (Nat × List Memo)), ∀ M ∈ p.2, MemoOk P τ p.1 M := fun p hp => absurd hp (List.not_mem_nil)
theorem ms_cons {f : FuncId} {l : List Memo} {ms : List (Nat × List Memo)} (h : ∀ M ∈ l, MemoOk P τ f M) (hs : ∀ p ∈ ms, ∀ M ∈ p.2, MemoOk P τ p.1 M) : ∀ p ∈ (f, l) :: ms, ∀ M ∈ p.2, MemoOk P τ p.1 M := fun p hp => by
  cases hp with
  | head => exact h
  | tail _ hp => exact hs p hp
theorem one_of {t : Nat} (h : (match P.info? t with | some i => Nat.beq i.size 1 | none => false) = true) : ∃ ic, P.info? t = some ic ∧ ic.size = 1 := by
  split at h
  · rename_i i hi; exact ⟨i, hi, Nat.eq_of_beq_eq_true h⟩
  · cases h
theorem agg_of {t : Nat} (h : (match P.underlying t with | some (.struct _) => true | _ => false) = true) (w : World) : (isAgg t).run P w = .ok true w := by
  split at h
  · rename_i fs hd; simp [isAgg, run_underlying hd]
  · cases h
end
end Go.Ev
end
