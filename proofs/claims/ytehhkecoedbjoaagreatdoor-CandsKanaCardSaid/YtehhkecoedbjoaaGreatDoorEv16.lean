/-
  The evaluator of closed runs (a part): EvK, EvKE.
-/
import Derived.Test.YtehhkecoedbjoaaGreatDoorEv1
set_option linter.unusedVariables false
set_option linter.unusedSimpArgs false
set_option linter.unusedSectionVars false
section
/-
  The abstract machine once more, in a form that the kernel evaluates with few steps.
-/
namespace Go.Ev

abbrev KV := Value → Hp → RR
/-- What stays the same throughout a function. -/
structure Cx where
  τ : Tab
  call : CallF
  L : Nat
  ro : Option Nat

abbrev EvFn := Tab → Fr → (Value → RR) → RR
noncomputable def evTmp (t : Tmp) : EvFn := fun _ fr k => Option.rec (motive := fun _ => RR) none k (fr.tm.get t)
noncomputable def evCst (v : Value) : EvFn := fun _ _ k => Bool.rec (motive := fun _ => RR) none (k v) (plainV v)
noncomputable def evGlb (g : Nat) : EvFn := fun τ _ k => Bool.rec (motive := fun _ => RR) none (k (ptr g 0)) (Nat.blt g τ.ng)
noncomputable def evFnc (f : FuncId) : EvFn := fun _ _ k => k (.func (.func f) #[] #[])
noncomputable def evK (x : Operand) : EvFn := Operand.rec (motive := fun _ => EvFn) evTmp evCst evGlb evFnc x

abbrev OpFn := Cx → Fr → Hp → KV → KV → RR
noncomputable def optK (h : Hp) (k : KV) (o : Option Value) : RR := Option.rec (motive := fun _ => RR) none (fun v => k v h) o
noncomputable def resK (k : KV) (r : Res) : RR := Option.rec (motive := fun _ => RR) none (fun p => Prod.rec (motive := fun _ => RR) k p) r
noncomputable def opSlow (o : Op) : OpFn := fun X fr h k kp => opK X.τ X.call fr h o k kp

noncomputable def cMove (x : Operand) : OpFn := fun X fr h k _ => evK x X.τ fr (fun v => k v h)
noncomputable def pickK (k : Bool → RR) (v : Value) : RR := match v with | .bool b => k b | _ => none
noncomputable def cPick (c a b : Operand) : OpFn := fun X fr h k _ => evK c X.τ fr (pickK (fun t => Bool.rec (motive := fun _ => EvFn) (evK b) (evK a) t X.τ fr (fun v => k v h)))
noncomputable def ptrK (k : Nat → Nat → RR) (v : Value) : RR := match v with | .pointer (some ⟨id, off, none⟩) => k id off | _ => none
noncomputable def cLoad (t : TypeId) (a : Operand) : OpFn := fun X fr h k _ => evK a X.τ fr (ptrK fun id off => optK h k (loadAtB X.τ t h id off))
noncomputable def cBin (op : BinOp) (t : TypeId) (x y : Operand) (_ : TypeId) : OpFn := fun X fr h k _ => evK x X.τ fr fun a => evK y X.τ fr fun b => optK h k (binB X.τ op t x y a b)
noncomputable def cUn (op : UnOp) (_ : TypeId) (x : Operand) : OpFn := fun X fr h k _ => evK x X.τ fr fun a => optK h k (unB op a)
noncomputable def cConv (s d : TypeId) (x : Operand) : OpFn := fun X fr h k _ => evK x X.τ fr fun a => resK k (convB X.τ s d a h)
noncomputable def cFieldAddr (s : TypeId) (x : Operand) (f : Nat) : OpFn := fun X fr h k _ => evK x X.τ fr fun a => optK h k (fieldAddrB X.τ s a f)
noncomputable def cIndexAddr (t : TypeId) (x i : Operand) : OpFn := fun X fr h k _ => evK x X.τ fr fun a => evK i X.τ fr fun b => optK h k (indexAddrB X.τ t a b)
noncomputable def cIndex (t : TypeId) (x i : Operand) : OpFn := fun X fr h k _ => evK x X.τ fr fun a => evK i X.τ fr fun b => optK h k (indexB X.τ t a b)
noncomputable def tupK (h : Hp) (k : KV) (i : Nat) (v : Value) : RR := match v with | .tuple vs => optK h k vs.toList[i]? | _ => none
noncomputable def cExtract (x : Operand) (i : Nat) : OpFn := fun X fr h k _ => evK x X.τ fr (tupK h k i)
noncomputable def storeK (k : KV) (o : Option Hp) : RR := Option.rec (motive := fun _ => RR) none (fun h' => k (.tuple #[]) h') o
noncomputable def cStore (t : TypeId) (a x : Operand) : OpFn := fun X fr h k _ => evK a X.τ fr (ptrK fun id off => evK x X.τ fr fun v => storeK k (storeAtB X.τ t h id off v))
noncomputable def opSel (o : Op) : OpFn :=
  Op.rec (motive := fun _ => OpFn) cMove cMove cPick (fun e => opSlow (.alloc e)) (fun e v => opSlow (.box e v)) (fun t ps => opSlow (.build t ps)) (fun t n ps => opSlow (.buildSlice t n ps))
    (fun t m k v => opSlow (.insert t m k v)) cLoad cStore (fun g => opSlow (.ready g)) (fun g => opSlow (.waits g)) (fun x => opSlow (.nilCheck x)) cBin cUn cConv
    (fun d x => opSlow (.sliceToArrayPointer d x)) (fun t x => opSlow (.makeInterface t x)) (fun f a b => opSlow (.makeFunc f a b)) (fun t r => opSlow (.makeMap t r)) (fun t s => opSlow (.makeChan t s))
    (fun t l c => opSlow (.makeSlice t l c)) (fun t x l h m => opSlow (.slice t x l h m)) cFieldAddr (fun t x f => opSlow (.field t x f)) cIndexAddr cIndex
    (fun t x i ok => opSlow (.lookup t x i ok)) (fun t m k v => opSlow (.mapUpdate t m k v)) (fun t m k => opSlow (.mapEntry t m k)) (fun t m s v => opSlow (.entryStore t m s v)) (fun t x => opSlow (.range t x))
    (fun i s => opSlow (.next i s)) (fun i => opSlow (.entry i)) (fun x t a ok => opSlow (.typeAssert x t a ok)) cExtract (fun c => opSlow (.call c)) (fun c => opSlow (.go c)) (fun c => opSlow (.defer c)) (fun x => opSlow (.panic x))
    (fun c x => opSlow (.send c x)) (fun t c ok => opSlow (.recv t c ok)) (fun cs b => opSlow (.select cs b)) o

/-- Lay a result into its place, and go on. -/
noncomputable def setT (k : Fr → Hp → RR) (t : Tmp) (v : Value) (h : Hp) (tm : T Value) (sz : Nat) (ds : List Deferred) : RR :=
  Bool.rec (motive := fun _ => RR) none (k ⟨tm.ins t v, sz, ds⟩ h) (Nat.blt t sz)
noncomputable def setS (fr : Fr) (k : Fr → Hp → RR) (t : Tmp) : KV := fun v h => Fr.rec (motive := fun _ => RR) (setT k t v h) fr
noncomputable def setK (fr : Fr) (k : Fr → Hp → RR) (d : Option Tmp) : KV := Option.rec (motive := fun _ => KV) (fun _ h => k fr h) (setS fr k) d

noncomputable def isDefer : Op → Bool
  | .defer _ => true
  | _ => false

abbrev RegFn := List Oper → Cx → Kt → Fr → Hp → RR
noncomputable def regNil : RegFn := fun _ _ K fr h => K.n fr h
noncomputable def regOp (op : Op) (dst : Option Tmp) (o : Oper) (ih : RegFn) : RegFn := fun ops X K fr h =>
  Bool.rec (motive := fun _ => RR) (opSel op X fr h (setK fr (ih ops X K) dst) (fun v h' => K.p v fr h'))
    (operK X.τ X.call X.ro fr h o (ih ops X K) (fun v h' => K.p v fr h')) (isDefer op)
noncomputable def regCons (o : Oper) (_ : List Oper) (ih : RegFn) : RegFn := Oper.rec (motive := fun _ => RegFn) (fun dst op _ _ _ g =>
  Option.rec (motive := fun _ => RegFn) (regOp op dst o ih)
    (fun g => fun ops X K fr h => match wantB fr ops (some g) with
      | some true => regOp op dst o ih ops X K fr h
      | some false => (match fr.set dst (.tuple #[]) with | some fr' => ih ops X K fr' h | none => none)
      | none => none) g) o
noncomputable def regF (l : List Oper) : RegFn := List.rec (motive := fun _ => RegFn) regNil regCons l

abbrev CodeFn := Cx → Kt → Fr → Hp → RR
noncomputable def kSkip : CodeFn := fun _ K fr h => K.n fr h
noncomputable def kRegion (_ : Nat) (ops : Array Oper) (draw : Bool) : CodeFn :=
  Bool.rec (motive := fun _ => CodeFn) (regF ops.toList ops.toList) (fun X K fr h => drawK X.τ X.call ops.toList (Region.before ops).toList K.n ops.toList 0 [] fr h) draw
noncomputable def withN (n : Fr → Hp → RR) (K : Kt) : Kt := Kt.rec (motive := fun _ => Kt) (fun _ x r p => ⟨n, x, r, p⟩) K
noncomputable def kSeq (_ _ : Code) (ia ib : CodeFn) : CodeFn := fun X K => ia X (withN (ib X K) K)
noncomputable def condV (a b : Fr → Hp → RR) (fr : Fr) (h : Hp) (v : Value) : RR := match v with | .bool t => Bool.rec (motive := fun _ => Fr → Hp → RR) b a t fr h | _ => none
noncomputable def kCond (c : Operand) (_ _ : Code) (ia ib : CodeFn) : CodeFn := fun X K fr h => evK c X.τ fr (condV (ia X K) (ib X K) fr h)
noncomputable def kBlock (id : Nat) (_ : Code) (ia : CodeFn) : CodeFn := fun X K => ia X (Kt.rec (motive := fun _ => Kt) (fun n x r p => ⟨n, fun id' => Bool.rec (motive := fun _ => Fr → Hp → RR) (x id') n (Nat.beq id' id), r, p⟩) K)
noncomputable def loopR (body : Kt → Fr → Hp → RR) (n : Nat) : Kt → Fr → Hp → RR :=
  Nat.rec (motive := fun _ => Kt → Fr → Hp → RR) (fun _ _ _ => none) (fun _ ih K => body (withN (ih K) K)) n
noncomputable def kLoop (_ : Code) (ia : CodeFn) : CodeFn := fun X K => loopR (ia X) X.L K
noncomputable def kRange (f : Operand) (ps : Array Tmp) (as body : Code) (_ _ : CodeFn) : CodeFn := fun X K fr h => rangeK X.τ X.call X.ro ps as body K fr h (ev X.τ fr f)
noncomputable def kExit (id : Nat) : CodeFn := fun _ K => K.x id
noncomputable def kScope (_ : Code) (ia : CodeFn) : CodeFn := ia
noncomputable def kLabel (_ : Nat) : CodeFn := kSkip
noncomputable def kGoto (_ : Nat) : CodeFn := fun _ _ _ _ => none
noncomputable def kRet : CodeFn := fun _ K => K.r
noncomputable def kRefuse (_ : String) : CodeFn := fun _ _ _ _ => none
noncomputable def codeF (c : Code) : CodeFn := Code.rec (motive := fun _ => CodeFn) kSkip kRegion kSeq kCond kBlock kLoop kRange kExit kScope kLabel kGoto kRet kRefuse c

noncomputable def seqKK (τ : Tab) (call : CallF) (L : Nat) (g : Nat → Option HookF) (l : List Code) : Nat → Kt → Fr → Hp → RR :=
  List.rec (motive := fun _ => Nat → Kt → Fr → Hp → RR) (fun _ K fr h => K.n fr h) (fun c _ ih i K fr h => match g i with
    | some x => (match x fr h with | some (fr', h') => ih (Nat.succ i) K fr' h' | none => none)
    | none => codeF c ⟨τ, call, L, none⟩ { n := fun fr h => ih (Nat.succ i) K fr h, x := K.x, r := K.r, p := K.p } fr h) l
noncomputable def bodyKK (τ : Tab) (S : Sums) (call : CallF) (L : Nat) (f : FuncId) (c : Code) (K : Kt) (fr : Fr) (h : Hp) : RR :=
  match S.hk f with
  | none => codeF c ⟨τ, call, L, none⟩ K fr h
  | some g => seqKK τ call L g (flatC c) 0 K fr h

noncomputable def funBodyK (τ : Tab) (S : Sums) (call : CallF) (L : Nat) (f : FuncId) (args : List Value) (h : Hp) (k kp : KV) : RR :=
  match τ.fn.get f with
  | none => none
  | some fn => match fn.body with
    | none => (match τ.ex.get f with
      | some e => (match extB τ e args h with | some (v, h') => k v h' | none => none)
      | none => none)
    | some c => match frame0 args fn.ntmps with
      | some fr0 => bodyKK τ S call L f c (.mk (fun fr h => endK τ S.dv fn.results.toList fr k fr.ds h) (fun _ _ _ => none)
        (fun fr h => endK τ S.dv fn.results.toList fr k fr.ds h) (fun v fr h => match fr.ds with | [] => kp v h | _ => none)) fr0 h
      | none => none

noncomputable def funKK (τ : Tab) (S : Sums) (L : Nat) (n : Nat) : CallF := Nat.rec (motive := fun _ => CallF) (fun _ _ _ _ _ => none) (fun _ ih => fun fn args h k kp => match fn with
    | .func f => (match (match S.ov f with | some g => g ih args h | none => none) with
      | some (v, h') => k v h'
      | none => match S.nd f with
        | some e => (match τ.inf.get e with
          | some i => (match joined h e (funBodyK τ S ih L f args h.mark
              (fun v h' => bif h'.lo.noOld h.nx then (match flatB h' h.nx e i.size v with | some (n, l) => some [.flat n l] | none => none) else none) (fun _ _ => none)) with
            | some (v, h') => k v h'
            | none => none)
          | none => none)
        | none => funBodyK τ S ih L f args h k kp)
    | .yield l => roundK τ ih L l args h k
    | _ => none) n
end Go.Ev
end

section
/-
  The form for the kernel is the evaluator.
-/
namespace Go.Ev
section
variable {τ : Tab} {call : CallF}

theorem evK_eq (x : Operand) (τ : Tab) (fr : Fr) (k : Value → RR) : evK x τ fr k = (match ev τ fr x with | some v => k v | none => none) := by
  cases x with
  | tmp t =>
    show Option.rec (motive := fun _ => RR) none k (fr.tm.get t) = (match fr.tm.get t with | some v => k v | none => none)
    cases fr.tm.get t <;> rfl
  | const v =>
    show Bool.rec (motive := fun _ => RR) none (k v) (plainV v) = (match (bif plainV v then some v else none) with | some v => k v | none => none)
    cases plainV v <;> rfl
  | global g =>
    show Bool.rec (motive := fun _ => RR) none (k (ptr g 0)) (Nat.blt g τ.ng) = (match (bif Nat.blt g τ.ng then some (ptr g 0) else none) with | some v => k v | none => none)
    cases Nat.blt g τ.ng <;> rfl
  | func f => rfl
theorem optK_eq (h : Hp) (k : KV) (o : Option Value) : optK h k o = (match ok1 h o with | some (v, h') => k v h' | none => none) := by cases o <;> rfl
theorem resK_eq (k : KV) (r : Res) : resK k r = (match r with | some (v, h') => k v h' | none => none) := by
  cases r with
  | none => rfl
  | some p => cases p; rfl
theorem storeK_eq (k : KV) (o : Option Hp) : storeK k o = (match okU o with | some (v, h') => k v h' | none => none) := by cases o <;> rfl

theorem opSel_eq (o : Op) (X : Cx) (fr : Fr) (h : Hp) (k kp : KV) : opSel o X fr h k kp = opK X.τ X.call fr h o k kp := by
  cases o <;> first
    | rfl
    | skip
  case move x =>
    show evK x X.τ fr (fun v => k v h) = (match ok1 h (ev X.τ fr x) with | some (v, h') => k v h' | none => none)
    rw [evK_eq]; cases ev X.τ fr x <;> rfl
  case assign x =>
    show evK x X.τ fr (fun v => k v h) = (match ok1 h (ev X.τ fr x) with | some (v, h') => k v h' | none => none)
    rw [evK_eq]; cases ev X.τ fr x <;> rfl
  case pick c a b =>
    show evK c X.τ fr (pickK (fun t => Bool.rec (motive := fun _ => EvFn) (evK b) (evK a) t X.τ fr (fun v => k v h))) =
      (match (match ev X.τ fr c with | some (.bool t) => ok1 h (ev X.τ fr (if t then a else b)) | _ => none) with | some (v, h') => k v h' | none => none)
    rw [evK_eq]
    cases ev X.τ fr c with
    | none => rfl
    | some v =>
      cases v <;> first
        | rfl
        | skip
      rename_i t
      cases t with
      | true =>
        show evK a X.τ fr (fun v => k v h) = (match ok1 h (ev X.τ fr a) with | some (v, h') => k v h' | none => none)
        rw [evK_eq]; cases ev X.τ fr a <;> rfl
      | false =>
        show evK b X.τ fr (fun v => k v h) = (match ok1 h (ev X.τ fr b) with | some (v, h') => k v h' | none => none)
        rw [evK_eq]; cases ev X.τ fr b <;> rfl
  case load t a =>
    show evK a X.τ fr (ptrK fun id off => optK h k (loadAtB X.τ t h id off)) =
      (match (match ev X.τ fr a with | some (.pointer (some ⟨id, off, none⟩)) => ok1 h (loadAtB X.τ t h id off) | _ => none) with | some (v, h') => k v h' | none => none)
    rw [evK_eq]
    cases ev X.τ fr a with
    | none => rfl
    | some v =>
      simp only [ptrK]
      split
      · exact optK_eq _ _ _
      · rename_i hn
        split
        · rename_i heq
          split at heq
          · rename_i hv; cases hv; exact absurd rfl (hn _ _)
          · cases heq
        · rfl
  case store t a x =>
    show evK a X.τ fr (ptrK fun id off => evK x X.τ fr fun v => storeK k (storeAtB X.τ t h id off v)) =
      (match (match ev X.τ fr a, ev X.τ fr x with | some (.pointer (some ⟨id, off, none⟩)), some v => okU (storeAtB X.τ t h id off v) | _, _ => none) with | some (v, h') => k v h' | none => none)
    rw [evK_eq]
    cases ev X.τ fr a with
    | none => rfl
    | some v =>
      simp only [ptrK]
      split
      · rw [evK_eq]
        cases ev X.τ fr x with
        | none => rfl
        | some u => exact storeK_eq _ _
      · rename_i hn
        split
        · rename_i heq
          split at heq
          · rename_i hv _; cases hv; exact absurd rfl (hn _ _)
          · cases heq
        · rfl
  case binOp op t x y ty =>
    show evK x X.τ fr (fun a => evK y X.τ fr fun b => optK h k (binB X.τ op t x y a b)) =
      (match (match ev X.τ fr x, ev X.τ fr y with | some a, some b => ok1 h (binB X.τ op t x y a b) | _, _ => none) with | some (v, h') => k v h' | none => none)
    rw [evK_eq]
    cases ev X.τ fr x with
    | none => rfl
    | some a =>
      simp only []
      rw [evK_eq]
      cases ev X.τ fr y with
      | none => rfl
      | some b => exact optK_eq _ _ _
  case unOp op t x =>
    show evK x X.τ fr (fun a => optK h k (unB op a)) = (match (match ev X.τ fr x with | some v => ok1 h (unB op v) | none => none) with | some (v, h') => k v h' | none => none)
    rw [evK_eq]
    cases ev X.τ fr x with
    | none => rfl
    | some a => exact optK_eq _ _ _
  case convert s d x =>
    show evK x X.τ fr (fun a => resK k (convB X.τ s d a h)) = (match (match ev X.τ fr x with | some v => convB X.τ s d v h | none => none) with | some (v, h') => k v h' | none => none)
    rw [evK_eq]
    cases ev X.τ fr x with
    | none => rfl
    | some a => exact resK_eq _ _
  case fieldAddr s x f =>
    show evK x X.τ fr (fun a => optK h k (fieldAddrB X.τ s a f)) = (match (match ev X.τ fr x with | some v => ok1 h (fieldAddrB X.τ s v f) | none => none) with | some (v, h') => k v h' | none => none)
    rw [evK_eq]
    cases ev X.τ fr x with
    | none => rfl
    | some a => exact optK_eq _ _ _
  case indexAddr t x i =>
    show evK x X.τ fr (fun a => evK i X.τ fr fun b => optK h k (indexAddrB X.τ t a b)) =
      (match (match ev X.τ fr x, ev X.τ fr i with | some a, some b => ok1 h (indexAddrB X.τ t a b) | _, _ => none) with | some (v, h') => k v h' | none => none)
    rw [evK_eq]
    cases ev X.τ fr x with
    | none => rfl
    | some a =>
      simp only []
      rw [evK_eq]
      cases ev X.τ fr i with
      | none => rfl
      | some b => exact optK_eq _ _ _
  case index t x i =>
    show evK x X.τ fr (fun a => evK i X.τ fr fun b => optK h k (indexB X.τ t a b)) =
      (match (match ev X.τ fr x, ev X.τ fr i with | some a, some b => ok1 h (indexB X.τ t a b) | _, _ => none) with | some (v, h') => k v h' | none => none)
    rw [evK_eq]
    cases ev X.τ fr x with
    | none => rfl
    | some a =>
      simp only []
      rw [evK_eq]
      cases ev X.τ fr i with
      | none => rfl
      | some b => exact optK_eq _ _ _
  case extract x i =>
    show evK x X.τ fr (tupK h k i) = (match (match ev X.τ fr x with | some (.tuple vs) => ok1 h vs.toList[i]? | _ => none) with | some (v, h') => k v h' | none => none)
    rw [evK_eq]
    cases ev X.τ fr x with
    | none => rfl
    | some v =>
      cases v <;> first
        | rfl
        | exact optK_eq _ _ _

theorem setK_eq (fr : Fr) (k : Fr → Hp → RR) (d : Option Tmp) : setK fr k d = fun v h => (match fr.set d v with | some fr' => k fr' h | none => none) := by
  funext v h
  cases d with
  | none => rfl
  | some t =>
    obtain ⟨tm, sz, ds⟩ := fr
    show Bool.rec (motive := fun _ => RR) none (k ⟨tm.ins t v, sz, ds⟩ h) (Nat.blt t sz) = (match (bif Nat.blt t sz then some (⟨tm.ins t v, sz, ds⟩ : Fr) else none) with | some fr' => k fr' h | none => none)
    cases Nat.blt t sz <;> rfl

theorem regF_eq (X : Cx) (K : Kt) : ∀ (l ops : List Oper) (fr : Fr) (h : Hp), regF l ops X K fr h = regK X.τ X.call X.ro ops K.p K.n l fr h
  | [], ops, fr, h => rfl
  | o :: l, ops, fr, h => by
    have ih := regF_eq X K l ops
    have hop : ∀ fr h, regOp o.op o.dst o (regF l) ops X K fr h = operK X.τ X.call X.ro fr h o (fun fr' h' => regK X.τ X.call X.ro ops K.p K.n l fr' h') (fun v h' => K.p v fr h') := by
      intro fr h
      have hk : (regF l ops X K) = fun fr' h' => regK X.τ X.call X.ro ops K.p K.n l fr' h' := by funext fr' h'; exact ih fr' h'
      show Bool.rec (motive := fun _ => RR) (opSel o.op X fr h (setK fr (regF l ops X K) o.dst) (fun v h' => K.p v fr h')) (operK X.τ X.call X.ro fr h o (regF l ops X K) (fun v h' => K.p v fr h')) (isDefer o.op) = _
      rw [hk]
      cases hd : isDefer o.op with
      | true => rfl
      | false =>
        show opSel o.op X fr h (setK fr _ o.dst) _ = _
        rw [opSel_eq, setK_eq]
        unfold operK
        split
        · rename_i c hc; rw [hc] at hd; cases hd
        · rfl
    obtain ⟨dst, op, ty, pos, after, guard⟩ := o
    cases guard with
    | none =>
      show regOp op dst _ (regF l) ops X K fr h = _
      rw [hop]; rfl
    | some g =>
      show (match wantB fr ops (some g) with
        | some true => regOp op dst _ (regF l) ops X K fr h
        | some false => (match fr.set dst (.tuple #[]) with | some fr' => regF l ops X K fr' h | none => none)
        | none => none) = _
      simp only [regK]
      cases wantB fr ops (some g) with
      | none => rfl
      | some b =>
        cases b with
        | true => simp only []; rw [hop]
        | false =>
          simp only []
          cases fr.set dst (.tuple #[]) with
          | none => rfl
          | some fr' => exact ih fr' h

theorem loopR_eq (body : Kt → Fr → Hp → RR) : ∀ (n : Nat) (K : Kt) (fr : Fr) (h : Hp), loopR body n K fr h = loopK body n K fr h
  | 0, K, fr, h => rfl
  | n + 1, K, fr, h => by
    obtain ⟨k1, k2, k3, k4⟩ := K
    show body { n := loopR body n ⟨k1, k2, k3, k4⟩, x := k2, r := k3, p := k4 } fr h = body { n := fun fr h => loopK body n ⟨k1, k2, k3, k4⟩ fr h, x := k2, r := k3, p := k4 } fr h
    have : loopR body n ⟨k1, k2, k3, k4⟩ = fun fr h => loopK body n ⟨k1, k2, k3, k4⟩ fr h := by funext fr h; exact loopR_eq body n _ fr h
    rw [this]
theorem codeF_eq : ∀ (c : Code) (X : Cx) (K : Kt) (fr : Fr) (h : Hp), codeF c X K fr h = codeK X.τ X.call X.L X.ro c K fr h := by
  intro c
  induction c with
  | skip => intro X K fr h; rfl
  | label l => intro X K fr h; rfl
  | exit id => intro X K fr h; rfl
  | ret => intro X K fr h; rfl
  | goto l => intro X K fr h; rfl
  | refuse s => intro X K fr h; rfl
  | region id ops draw =>
    intro X K fr h
    cases draw with
    | false =>
      show regF ops.toList ops.toList X K fr h = _
      rw [regF_eq]; rfl
    | true => rfl
  | seq x y ihx ihy =>
    intro X K fr h
    show codeF x X (withN (codeF y X K) K) fr h = _
    have : codeF y X K = fun fr h => codeK X.τ X.call X.L X.ro y K fr h := by funext fr h; exact ihy X K fr h
    rw [ihx, this]
    obtain ⟨n, x', r, p⟩ := K
    rfl
  | cond cnd x y ihx ihy =>
    intro X K fr h
    show evK cnd X.τ fr (condV (codeF x X K) (codeF y X K) fr h) = condK (codeK X.τ X.call X.L X.ro x) (codeK X.τ X.call X.L X.ro y) K fr h (ev X.τ fr cnd)
    rw [evK_eq]
    cases ev X.τ fr cnd with
    | none => rfl
    | some v =>
      cases v <;> first
        | rfl
        | skip
      rename_i t
      cases t with
      | true => exact ihx X K fr h
      | false => exact ihy X K fr h
  | block id c ih =>
    intro X K fr h
    obtain ⟨n, x', r, p⟩ := K
    show codeF c X ⟨n, fun id' => Bool.rec (motive := fun _ => Fr → Hp → RR) (x' id') n (Nat.beq id' id), r, p⟩ fr h = codeK X.τ X.call X.L X.ro c { n := n, x := fun id' fr h => bif Nat.beq id' id then n fr h else x' id' fr h, r := r, p := p } fr h
    rw [ih]
    congr 2
    funext id' fr h
    cases Nat.beq id' id <;> rfl
  | loop c ih =>
    intro X K fr h
    show loopR (codeF c X) X.L K fr h = loopK (codeK X.τ X.call X.L X.ro c) X.L K fr h
    have hc : codeF c X = codeK X.τ X.call X.L X.ro c := by funext K fr h; exact ih X K fr h
    rw [hc]; exact loopR_eq _ _ K fr h
  | rangeFunc f ps as body _ _ => intro X K fr h; rfl
  | scope c ih => intro X K fr h; exact ih X K fr h

theorem seqKK_eq (L : Nat) (g : Nat → Option HookF) : ∀ (l : List Code) (i : Nat) (K : Kt) (fr : Fr) (h : Hp), seqKK τ call L g l i K fr h = seqK τ call L none g l i K fr h
  | [], i, K, fr, h => rfl
  | c :: l, i, K, fr, h => by
    have ih := seqKK_eq L g l
    show (match g i with
      | some x => (match x fr h with | some (fr', h') => seqKK τ call L g l (Nat.succ i) K fr' h' | none => none)
      | none => codeF c ⟨τ, call, L, none⟩ { n := fun fr h => seqKK τ call L g l (Nat.succ i) K fr h, x := K.x, r := K.r, p := K.p } fr h) = _
    simp only [seqK]
    cases g i with
    | some x =>
      simp only []
      cases x fr h with
      | none => rfl
      | some p => exact ih _ K p.1 p.2
    | none =>
      simp only []
      rw [codeF_eq]
      have : (fun fr h => seqKK τ call L g l (Nat.succ i) K fr h) = fun fr h => seqK τ call L none g l (Nat.succ i) K fr h := by funext fr h; exact ih _ K fr h
      rw [this]
theorem funBodyK_eq (S : Sums) (L : Nat) (f : FuncId) (args : List Value) (h : Hp) (k kp : KV) : funBodyK τ S call L f args h k kp = funBody τ S call L f args h k kp := by
  unfold funBodyK funBody
  cases τ.fn.get f with
  | none => rfl
  | some fn =>
    simp only []
    cases fn.body with
    | none => rfl
    | some c =>
      simp only []
      cases frame0 args fn.ntmps with
      | none => rfl
      | some fr0 =>
        simp only []
        unfold bodyKK bodyK
        cases S.hk f with
        | none => simp only []; rw [codeF_eq]; rfl
        | some g => simp only []; rw [seqKK_eq]; rfl
theorem funKK_eq (S : Sums) (L : Nat) : ∀ n, funKK τ S L n = funK τ S L n := by
  intro n
  induction n with
  | zero => funext fn args h k kp; rfl
  | succ n ih =>
    funext fn args h k kp
    cases fn <;> first
      | rfl
      | skip
    · rename_i f
      show (match (match S.ov f with | some g => g (funKK τ S L n) args h | none => none) with
        | some (v, h') => k v h'
        | none => match S.nd f with
          | some e => (match τ.inf.get e with
            | some i => (match joined h e (funBodyK τ S (funKK τ S L n) L f args h.mark
                (fun v h' => bif h'.lo.noOld h.nx then (match flatB h' h.nx e i.size v with | some (n, l) => some [.flat n l] | none => none) else none) (fun _ _ => none)) with
              | some (v, h') => k v h'
              | none => none)
            | none => none)
          | none => funBodyK τ S (funKK τ S L n) L f args h k kp) = _
      rw [ih]
      simp only [funBodyK_eq]
      rfl
    · rename_i l
      show roundK τ (funKK τ S L n) L l args h k = roundK τ (funK τ S L n) L l args h k
      rw [ih]
end
end Go.Ev
end
