/-
  The evaluator of closed runs (a part): EvA, EvB, EvC, EvD, EvF.
-/
import GoSem.Step
set_option linter.unusedVariables false
set_option linter.unusedSimpArgs false
set_option linter.unusedSectionVars false
section
/-
  Tries with natural numbers as keys, made so that the kernel evaluates them with few steps; the laws of get and ins.
-/
namespace Go.Ev

/-- A trie: the value of key 0 in the middle; the keys 2i+1 on the left, the keys 2i+2 on the right. -/
inductive T (α : Type) where
  | nil
  | node (l : T α) (v : Option α) (r : T α)

noncomputable def T.get {α : Type} (t : T α) : Nat → Option α :=
  T.rec (motive := fun _ => Nat → Option α) (fun _ => none) (fun _ v _ gl gr i =>
    Nat.rec (motive := fun _ => Option α) v (fun j _ => Bool.rec (motive := fun _ => Option α) (gr (Nat.div j 2)) (gl (Nat.div j 2)) (Nat.beq (Nat.mod j 2) 0)) i) t

noncomputable def T.single {α β : Type} (x : α) (f : Nat) : Nat → (T α → β) → β :=
  Nat.rec (motive := fun _ => Nat → (T α → β) → β) (fun _ k => k .nil) (fun _ ih i k =>
    Nat.rec (motive := fun _ => β) (k (.node .nil (some x) .nil)) (fun j _ => Bool.rec (motive := fun _ => β)
      (ih (Nat.div j 2) (fun r => k (.node .nil none r))) (ih (Nat.div j 2) (fun l => k (.node l none .nil))) (Nat.beq (Nat.mod j 2) 0)) i) f

noncomputable def T.set {α β : Type} (t : T α) (x : α) : Nat → (T α → β) → β :=
  T.rec (motive := fun _ => Nat → (T α → β) → β) (fun i k => T.single x (Nat.succ i) i k) (fun l v r sl sr i k =>
    Nat.rec (motive := fun _ => β) (k (.node l (some x) r)) (fun j _ => Bool.rec (motive := fun _ => β)
      (sr (Nat.div j 2) (fun r' => k (.node l v r'))) (sl (Nat.div j 2) (fun l' => k (.node l' v r))) (Nat.beq (Nat.mod j 2) 0)) i) t

noncomputable def T.ins {α : Type} (t : T α) (i : Nat) (x : α) : T α := t.set x i fun t => t

section
variable {α : Type}

theorem T.get_nil (i : Nat) : (T.nil : T α).get i = none := rfl
theorem T.get_zero (l r : T α) (v : Option α) : (T.node l v r).get 0 = v := rfl
theorem T.get_succ (l r : T α) (v : Option α) (j : Nat) : (T.node l v r).get (j + 1) = if j % 2 = 0 then l.get (j / 2) else r.get (j / 2) := by
  show Bool.rec (motive := fun _ => Option α) (r.get (j / 2)) (l.get (j / 2)) (Nat.beq (j % 2) 0) = _
  by_cases h : j % 2 = 0
  · rw [if_pos h, h]; rfl
  · rw [if_neg h]
    have : Nat.beq (j % 2) 0 = false := Bool.eq_false_iff.2 fun e => h (Nat.eq_of_beq_eq_true e)
    rw [this]

theorem T.single_k (x : α) : ∀ (f i : Nat) {β : Type} (k : T α → β), T.single x f i k = k (T.single x f i fun t => t) := by
  intro f
  induction f with
  | zero => intro i β k; rfl
  | succ f ih =>
    intro i β k
    cases i with
    | zero => rfl
    | succ j =>
      show Bool.rec (motive := fun _ => β) (T.single x f (j / 2) _) (T.single x f (j / 2) _) (Nat.beq (j % 2) 0) =
        k (Bool.rec (motive := fun _ => T α) (T.single x f (j / 2) _) (T.single x f (j / 2) _) (Nat.beq (j % 2) 0))
      cases Nat.beq (j % 2) 0
      · show T.single x f (j / 2) (fun r => k (.node .nil none r)) = k (T.single x f (j / 2) fun r => .node .nil none r)
        rw [ih (j / 2) (fun r => k (T.node .nil none r)), ih (j / 2) (fun r => T.node .nil none r)]
      · show T.single x f (j / 2) (fun r => k (.node r none .nil)) = k (T.single x f (j / 2) fun r => .node r none .nil)
        rw [ih (j / 2) (fun r => k (T.node r none .nil)), ih (j / 2) (fun r => T.node r none .nil)]

theorem T.set_k (x : α) : ∀ (t : T α) (i : Nat) {β : Type} (k : T α → β), t.set x i k = k (t.ins i x) := by
  intro t
  induction t with
  | nil => intro i β k; exact T.single_k x (i + 1) i k
  | node l v r ihl ihr =>
    intro i β k
    cases i with
    | zero => rfl
    | succ j =>
      show Bool.rec (motive := fun _ => β) (r.set x (j / 2) _) (l.set x (j / 2) _) (Nat.beq (j % 2) 0) =
        k (Bool.rec (motive := fun _ => T α) (r.set x (j / 2) _) (l.set x (j / 2) _) (Nat.beq (j % 2) 0))
      cases Nat.beq (j % 2) 0
      · show r.set x (j / 2) (fun r' => k (.node l v r')) = k (r.set x (j / 2) fun r' => .node l v r')
        rw [ihr (j / 2) (fun r' => k (T.node l v r')), ihr (j / 2) (fun r' => T.node l v r')]
      · show l.set x (j / 2) (fun l' => k (.node l' v r)) = k (l.set x (j / 2) fun l' => .node l' v r)
        rw [ihl (j / 2) (fun l' => k (T.node l' v r)), ihl (j / 2) (fun l' => T.node l' v r)]

theorem T.ins_zero (l r : T α) (v : Option α) (x : α) : (T.node l v r).ins 0 x = .node l (some x) r := rfl
theorem T.ins_succ (l r : T α) (v : Option α) (x : α) (j : Nat) :
    (T.node l v r).ins (j + 1) x = if j % 2 = 0 then .node (l.ins (j / 2) x) v r else .node l v (r.ins (j / 2) x) := by
  show Bool.rec (motive := fun _ => T α) (r.set x (j / 2) fun r' => .node l v r') (l.set x (j / 2) fun l' => .node l' v r) (Nat.beq (j % 2) 0) = _
  by_cases h : j % 2 = 0
  · rw [if_pos h, h]; exact T.set_k x l (j / 2) _
  · rw [if_neg h]
    have : Nat.beq (j % 2) 0 = false := Bool.eq_false_iff.2 fun e => h (Nat.eq_of_beq_eq_true e)
    rw [this]; exact T.set_k x r (j / 2) _

theorem T.single_zero (x : α) (f : Nat) : T.single x (f + 1) 0 (fun t => t) = .node .nil (some x) .nil := rfl
theorem T.single_succ (x : α) (f j : Nat) : T.single x (f + 1) (j + 1) (fun t => t) =
    if j % 2 = 0 then .node (T.single x f (j / 2) fun t => t) none .nil else .node .nil none (T.single x f (j / 2) fun t => t) := by
  show Bool.rec (motive := fun _ => T α) (T.single x f (j / 2) fun r => .node .nil none r) (T.single x f (j / 2) fun l => .node l none .nil) (Nat.beq (j % 2) 0) = _
  by_cases h : j % 2 = 0
  · rw [if_pos h, h]; exact T.single_k x f (j / 2) _
  · rw [if_neg h]
    have : Nat.beq (j % 2) 0 = false := Bool.eq_false_iff.2 fun e => h (Nat.eq_of_beq_eq_true e)
    rw [this]; exact T.single_k x f (j / 2) _

theorem T.get_single (x : α) : ∀ (f i j : Nat), i < f → (T.single x f i fun t => t).get j = if j = i then some x else none := by
  intro f
  induction f with
  | zero => intro i j h; omega
  | succ f ih =>
    intro i j h
    cases i with
    | zero =>
      rw [T.single_zero]
      cases j with
      | zero => rfl
      | succ j => rw [T.get_succ, T.get_nil, ite_self, if_neg (by omega)]
    | succ i =>
      rw [T.single_succ]
      by_cases hi : i % 2 = 0
      · rw [if_pos hi]
        cases j with
        | zero => rw [T.get_zero, if_neg (by omega)]
        | succ j =>
          rw [T.get_succ]
          by_cases hj : j % 2 = 0
          · rw [if_pos hj, ih (i / 2) (j / 2) (by omega)]
            by_cases e : j = i
            · rw [if_pos (by omega), if_pos (by omega)]
            · rw [if_neg (by omega), if_neg (by omega)]
          · rw [if_neg hj, T.get_nil, if_neg (by omega)]
      · rw [if_neg hi]
        cases j with
        | zero => rw [T.get_zero, if_neg (by omega)]
        | succ j =>
          rw [T.get_succ]
          by_cases hj : j % 2 = 0
          · rw [if_pos hj, T.get_nil, if_neg (by omega)]
          · rw [if_neg hj, ih (i / 2) (j / 2) (by omega)]
            by_cases e : j = i
            · rw [if_pos (by omega), if_pos (by omega)]
            · rw [if_neg (by omega), if_neg (by omega)]

theorem T.get_ins (x : α) : ∀ (t : T α) (i j : Nat), (t.ins i x).get j = if j = i then some x else t.get j := by
  intro t
  induction t with
  | nil => intro i j; exact T.get_single x (i + 1) i j (Nat.lt_succ_self i)
  | node l v r ihl ihr =>
    intro i j
    cases i with
    | zero =>
      rw [T.ins_zero]
      cases j with
      | zero => rfl
      | succ j => rw [T.get_succ, T.get_succ, if_neg (c := j + 1 = 0) (by omega)]
    | succ i =>
      rw [T.ins_succ]
      by_cases hi : i % 2 = 0
      · rw [if_pos hi]
        cases j with
        | zero => rw [T.get_zero, T.get_zero, if_neg (by omega)]
        | succ j =>
          rw [T.get_succ, T.get_succ]
          by_cases hj : j % 2 = 0
          · rw [if_pos hj, if_pos hj, ihl]
            by_cases e : j = i
            · rw [if_pos (by omega), if_pos (by omega)]
            · rw [if_neg (by omega), if_neg (by omega)]
          · rw [if_neg hj, if_neg hj, if_neg (by omega)]
      · rw [if_neg hi]
        cases j with
        | zero => rw [T.get_zero, T.get_zero, if_neg (by omega)]
        | succ j =>
          rw [T.get_succ, T.get_succ]
          by_cases hj : j % 2 = 0
          · rw [if_pos hj, if_pos hj, if_neg (by omega)]
          · rw [if_neg hj, if_neg hj, ihr]
            by_cases e : j = i
            · rw [if_pos (by omega), if_pos (by omega)]
            · rw [if_neg (by omega), if_neg (by omega)]

theorem T.get_ins_same (x : α) (t : T α) (i : Nat) : (t.ins i x).get i = some x := by rw [T.get_ins, if_pos rfl]
theorem T.get_ins_ne (x : α) (t : T α) {i j : Nat} (h : j ≠ i) : (t.ins i x).get j = t.get j := by rw [T.get_ins, if_neg h]

/-- A list laid into a trie, from key 'i' on. -/
noncomputable def T.laid (l : List α) : Nat → T α → T α :=
  List.rec (motive := fun _ => Nat → T α → T α) (fun _ t => t) (fun x _ ih i t => t.set x i fun t' => ih (Nat.succ i) t') l
theorem T.laid_nil (i : Nat) (t : T α) : T.laid [] i t = t := rfl
theorem T.laid_cons (x : α) (l : List α) (i : Nat) (t : T α) : T.laid (x :: l) i t = T.laid l (i + 1) (t.ins i x) := by
  show t.set x i (fun t' => T.laid l (i + 1) t') = _
  rw [T.set_k]
theorem T.get_laid : ∀ (l : List α) (i : Nat) (t : T α) (j : Nat), (T.laid l i t).get j = if i ≤ j ∧ j < i + l.length then l[j - i]? else t.get j := by
  intro l
  induction l with
  | nil => intro i t j; rw [T.laid_nil, if_neg (by simp)]
  | cons x l ih =>
    intro i t j
    rw [T.laid_cons, ih]
    by_cases h : i ≤ j ∧ j < i + (x :: l).length
    · rw [if_pos h]
      simp only [List.length_cons] at h
      by_cases e : j = i
      · subst e; rw [if_neg (by omega), T.get_ins_same]; simp
      · rw [if_pos (by omega)]
        obtain ⟨d, rfl⟩ : ∃ d, j = i + 1 + d := ⟨j - i - 1, by omega⟩
        rw [show i + 1 + d - (i + 1) = d by omega, show i + 1 + d - i = d + 1 by omega]; rfl
    · rw [if_neg h]
      simp only [List.length_cons] at h
      rw [if_neg (by omega), T.get_ins_ne _ _ (by omega)]
end

/-- A table made of a list: key i holds the list's i-th element; evaluated lazily. 'f': how deep. -/
noncomputable def evens {α : Type} (l : List α) : List α × List α :=
  List.rec (motive := fun _ => List α × List α) ([], []) (fun x _ ih => (x :: ih.2, ih.1)) l
noncomputable def T.table {α : Type} (f : Nat) : List α → T α :=
  Nat.rec (motive := fun _ => List α → T α) (fun _ => .nil) (fun _ ih l =>
    List.rec (motive := fun _ => T α) .nil (fun x l _ => .node (ih (evens l).1) (some x) (ih (evens l).2)) l) f

theorem evens_get {α : Type} : ∀ (l : List α) (i : Nat), (evens l).1[i]? = l[2 * i]? ∧ (evens l).2[i]? = l[2 * i + 1]? := by
  intro l
  induction l with
  | nil => intro i; exact ⟨by simp [evens], by simp [evens]⟩
  | cons x l ih =>
    intro i
    refine ⟨?_, ?_⟩
    · show (x :: (evens l).2)[i]? = _
      cases i with
      | zero => rfl
      | succ i =>
        rw [List.getElem?_cons_succ, (ih i).2, show 2 * (i + 1) = (2 * i + 1) + 1 by omega, List.getElem?_cons_succ]
    · show (evens l).1[i]? = _
      rw [(ih i).1, List.getElem?_cons_succ]

theorem T.get_table {α : Type} : ∀ (f : Nat) (l : List α) (i : Nat) (x : α), (T.table f l).get i = some x → l[i]? = some x := by
  intro f
  induction f with
  | zero => intro l i x h; cases h
  | succ f ih =>
    intro l i x h
    cases l with
    | nil => cases h
    | cons y l =>
      change (T.node (T.table f (evens l).1) (some y) (T.table f (evens l).2)).get i = some x at h
      cases i with
      | zero => rw [T.get_zero] at h; simpa using h
      | succ j =>
        rw [T.get_succ] at h
        rw [List.getElem?_cons_succ]
        by_cases hj : j % 2 = 0
        · rw [if_pos hj] at h
          have := ih _ _ _ h
          rw [(evens_get l (j / 2)).1] at this
          rw [← this]; congr 1; omega
        · rw [if_neg hj] at h
          have := ih _ _ _ h
          rw [(evens_get l (j / 2)).2] at this
          rw [← this]; congr 1; omega
end Go.Ev
end

section
/-
  The abstract machine: a heap with block numbers of its own, and what each operation of the model's code does on it, computed directly. 'none': the operation is not taken in (nothing is claimed).
-/
namespace Go.Ev

/-- A block. 'umap': a map whose entries are known, not in which order; 'ucells': cells of elements that are known, not in which order. 'cells c n e lo hi x': n cells, of which c knows some; the element's type; the cells from lo to hi may not be written; x: the block is the model's block as a whole. -/
inductive HB where
  | cells (c : T Value) (n : Nat) (e : TypeId) (lo hi : Nat) (x : Bool)
  | map (es : List MapEntry) (ck : Nat)
  | str (s : ByteArray) (pos : Nat)
  | miter (m : Option Nat) (since : Nat) (seen : List Nat) (last : Nat)
  | loop (st : LoopState) (pending : Option Code) (tm : T Value) (sz : Nat) (params : List Tmp) (assign body : Code) (dfr : Nat)
  | dfr (taken : Bool)
  | dead
  | umap (es : List (Value × Value))
  | ucells (gs : List (List Value)) (e : TypeId)

def HB.live : HB → Bool
  | .dead => false
  | _ => true

/-- Which blocks have been written: none; one; some of those from a number on; one, and some of those from a number on. -/
inductive WS where
  | no
  | one (id : Nat)
  | rest (lo : Nat)
  | pair (b lo : Nat)
def WS.has : WS → Nat → Prop
  | .no, _ => False
  | .one b, i => i = b
  | .rest lo, i => lo ≤ i
  | .pair b lo, i => i = b ∨ lo ≤ i
def WS.hasB : WS → Nat → Bool
  | .no, _ => false
  | .one b, i => Nat.beq i b
  | .rest lo, i => Nat.ble lo i
  | .pair b lo, i => Nat.beq i b || Nat.ble lo i
/-- The one takes in the other. -/
instance : LE WS := ⟨fun a b => ∀ i, b.has i → a.has i⟩
def WS.noOld (nx : Nat) : WS → Bool
  | .no => true
  | .one b => Nat.ble nx b
  | .rest lo => Nat.ble nx lo
  | .pair b lo => Nat.ble nx b && Nat.ble nx lo

/-- The heap; the next block's number; which blocks have been written. -/
structure Hp where
  t : T HB
  nx : Nat
  lo : WS

inductive ExtK where
  | noEscape | indexByte | count | index | makeNoZero (e : TypeId)

/-- What the machine knows of the program. -/
structure Tab where
  fn : T Func
  ds : T TypeDesc
  inf : T TypeInfo
  ex : T ExtK
  eqOk : TypeId → Bool
  ng : Nat

structure Fr where
  tm : T Value
  sz : Nat
  ds : List Deferred

def least (i j : Nat) : Nat := bif Nat.ble i j then i else j
def lower (s : WS) (i : Nat) : WS := match s with
  | .no => .one i
  | .one b => bif Nat.beq b i then .one b else bif Nat.ble b i then .pair b i else .pair i b
  | .rest lo => bif Nat.ble lo i then .rest lo else .pair i lo
  | .pair b lo => bif Nat.beq b i || Nat.ble lo i then .pair b lo else bif Nat.ble b i then .pair b i else .pair i (least b lo)
/-- The same, more roughly. -/
def lowerR (s : WS) (i : Nat) : WS := match s with
  | .no => .one i
  | .one b => bif Nat.beq b i then .one b else .rest (least b i)
  | .rest lo => .rest (least lo i)
  | .pair b lo => .rest (least (least b lo) i)
def restIn (s : WS) (j : Nat) : WS := match s with
  | .no => .rest j
  | .one i => bif Nat.ble j i then .rest j else .pair i j
  | .rest i => .rest (least i j)
  | .pair b lo => .pair b (least lo j)
def joinW (s s' : WS) : WS := match s' with
  | .no => s
  | .one i => lower s i
  | .rest j => restIn s j
  | .pair b j => lower (restIn s j) b
def Hp.low (h : Hp) (i : Nat) : WS := lower h.lo i
noncomputable def Hp.put (h : Hp) (i : Nat) (b : HB) : Hp := match h with | ⟨t, nx, lo⟩ => ⟨t.ins i b, nx, lower lo i⟩
noncomputable def Hp.new (h : Hp) (b : HB) : Hp := match h with | ⟨t, nx, lo⟩ => ⟨t.ins nx b, Nat.succ nx, lo⟩
/-- The same heap, of which nothing has been written yet. -/
def Hp.mark (h : Hp) : Hp := match h with | ⟨t, nx, _⟩ => ⟨t, nx, .no⟩
/-- Behind an operation: what it has written counts. -/
def Hp.back (h h' : Hp) : Hp := match h with | ⟨_, _, lo⟩ => match h' with | ⟨t, nx, lo'⟩ => ⟨t, nx, joinW lo lo'⟩

abbrev Res := Option (Value × Hp)
def ptr (id off : Nat) : Value := .pointer (some ⟨id, off, none⟩)
def cellsOfV : Value → List Value
  | .agg cs => cs.toList
  | v => [v]
def one : Value → Bool
  | .agg _ | .tuple _ => false
  | _ => true

/-- A constant of the code that holds no address. -/
def plainCell : Value → Bool
  | .bool _ | .int _ _ | .float _ _ | .complex _ _ _ | .string _ | .pointer none | .slice none _ _ | .map none | .chan none | .nilFunc | .nilIface => true
  | _ => false
def plainV : Value → Bool
  | .agg cs => cs.toList.all plainCell
  | .tuple cs => cs.toList.all plainCell
  | .iface _ v => plainCell v
  | v => plainCell v

noncomputable def ev (τ : Tab) (fr : Fr) : Operand → Option Value
  | .tmp t => fr.tm.get t
  | .const v => bif plainV v then some v else none
  | .global g => bif Nat.blt g τ.ng then some (ptr g 0) else none
  | .func f => some (.func (.func f) #[] #[])

noncomputable def evs (τ : Tab) (fr : Fr) : List Operand → Option (List Value)
  | [] => some []
  | o :: l => match ev τ fr o, evs τ fr l with
    | some v, some vs => some (v :: vs)
    | _, _ => none

/-- The cells from 'off' on, as many as n. -/
noncomputable def gather (c : T Value) (n : Nat) : Nat → Option (List Value) :=
  Nat.rec (motive := fun _ => Nat → Option (List Value)) (fun _ => some [])
    (fun _ ih off => match c.get off with
      | some v => (match ih (Nat.succ off) with | some l => some (v :: l) | none => none)
      | none => none) n

def isAggD : TypeDesc → Bool
  | .struct _ | .array _ _ => true
  | _ => false

noncomputable def loadAtB (τ : Tab) (t : TypeId) (h : Hp) (id off : Nat) : Option Value :=
  match h.t.get id, τ.ds.get t with
  | some (.cells c _ _ _ _ _), some d => bif isAggD d then (match τ.inf.get t with
      | some i => (match gather c i.size off with | some l => some (.agg ⟨l⟩) | none => none)
      | none => none)
    else c.get off
  | _, _ => none

/-- May the cells from off on, as many as k, be written in a block? -/
def free (n lo hi off k : Nat) : Bool := Nat.ble (off + k) n && (Nat.ble hi lo || Nat.ble (off + k) lo || Nat.ble hi off)

noncomputable def storeB (h : Hp) (id off : Nat) (vs : List Value) : Option Hp :=
  match h.t.get id with
  | some (.cells c n e lo hi x) => bif free n lo hi off vs.length && vs.all one then some (h.put id (.cells (T.laid vs off c) n e lo hi x)) else none
  | _ => none

noncomputable def storeAtB (τ : Tab) (t : TypeId) (h : Hp) (id off : Nat) (v : Value) : Option Hp :=
  match τ.inf.get t with
  | some i => bif Nat.beq (cellsOfV v).length i.size then storeB h id off (cellsOfV v) else none
  | none => none

noncomputable def rowOf (h : Hp) (e : TypeId) (vs : List Value) : Hp := h.new (.cells (T.laid vs 0 .nil) vs.length e 0 0 true)
noncomputable def rowA (h : Hp) (e : TypeId) (vs : List Value) : Hp := h.new (.cells (T.laid vs 0 .nil) vs.length e 0 0 false)

/-- A part of an aggregate. -/
noncomputable def partB (τ : Tab) (t : TypeId) (cs : List Value) (off : Nat) : Option Value :=
  match τ.ds.get t with
  | some d => bif isAggD d then (match τ.inf.get t with | some i => some (.agg ⟨(cs.drop off).take i.size⟩) | none => none) else cs[off]?
  | none => none

def putAt : List Value → Nat → List Value → List Value
  | cs, _, [] => cs
  | cs, off, v :: vs => putAt (cs.set off v) (off + 1) vs

/-- The parts of a composite literal, laid over the zero value's cells. -/
noncomputable def fillB (place : Nat → Option (Nat × Nat)) : List (Nat × Value) → List Value → Option (List Value)
  | [], cs => some cs
  | (i, v) :: rest, cs => match place i with
    | none => none
    | some (off, size) => bif Nat.beq (cellsOfV v).length size && Nat.ble (off + size) cs.length && (cellsOfV v).all one then fillB place rest (putAt cs off (cellsOfV v)) else none

def repl (z : List Value) : Nat → List Value
  | 0 => []
  | n + 1 => z ++ repl z n

noncomputable def asIdx (v : Value) : Option Nat :=
  match v with
  | .int _ (.ofNat n) => some n
  | _ => none

/-! ### strings, as lists of bytes -/
def mkS (l : List UInt8) : ByteArray := ⟨⟨l⟩⟩
def eqS : List UInt8 → List UInt8 → Bool
  | [], [] => true
  | a :: l, b :: m => bif Nat.beq a.toNat b.toNat then eqS l m else false
  | _, _ => false
def ltS : List UInt8 → List UInt8 → Bool
  | _, [] => false
  | [], _ :: _ => true
  | a :: l, b :: m => bif Nat.blt a.toNat b.toNat then true else bif Nat.beq a.toNat b.toNat then ltS l m else false
def b1 : List UInt8 → Nat
  | [] => 0
  | b :: _ => b.toNat
/-- The code point of the bytes b0 b1 b2 b3 (0: none), and its width. -/
def dec4 (a b c d : Nat) : Nat × Nat :=
  bif Nat.blt a 128 then (a, 1)
  else bif Nat.beq (a / 32) 6 && Nat.beq (b / 64) 2 then (bif Nat.ble 128 ((a % 32) * 64 + b % 64) then ((a % 32) * 64 + b % 64, 2) else (65533, 1))
  else bif Nat.beq (a / 16) 14 && Nat.beq (b / 64) 2 && Nat.beq (c / 64) 2 then
    (bif Nat.ble 2048 ((a % 16) * 4096 + (b % 64) * 64 + c % 64) && (Nat.blt ((a % 16) * 4096 + (b % 64) * 64 + c % 64) 55296 || Nat.ble 57344 ((a % 16) * 4096 + (b % 64) * 64 + c % 64)) then
      ((a % 16) * 4096 + (b % 64) * 64 + c % 64, 3) else (65533, 1))
  else bif Nat.beq (a / 8) 30 && Nat.beq (b / 64) 2 && Nat.beq (c / 64) 2 && Nat.beq (d / 64) 2 then
    (bif Nat.ble 65536 ((a % 8) * 262144 + (b % 64) * 4096 + (c % 64) * 64 + d % 64) && Nat.ble ((a % 8) * 262144 + (b % 64) * 4096 + (c % 64) * 64 + d % 64) 1114111 then
      ((a % 8) * 262144 + (b % 64) * 4096 + (c % 64) * 64 + d % 64, 4) else (65533, 1))
  else (65533, 1)
def decL (l : List UInt8) : Nat × Nat := dec4 (b1 l) (b1 (l.drop 1)) (b1 (l.drop 2)) (b1 (l.drop 3))
def runesL : Nat → List UInt8 → List Value
  | 0, _ => []
  | _ + 1, [] => []
  | n + 1, b :: l => .int .i32 (Int.ofNat (decL (b :: l)).1) :: runesL n ((b :: l).drop (decL (b :: l)).2)

/-! ### equality, of values that are compared without looking at memory -/
noncomputable def eqB (τ : Tab) : Nat → TypeId → Value → Value → Option Bool
  | 0, _, _, _ => none
  | d + 1, t, x, y =>
    match τ.ds.get t with
    | none => none
    | some td => match td, x, y with
      | .bool, .bool a, .bool b => some (a == b)
      | .int _, .int k a, .int k' b => if k = k' then some (a == b) else none
      | .string, .string a, .string b => some (eqS a.data.toList b.data.toList)
      | .pointer _, .pointer none, .pointer b => some b.isNone
      | .pointer _, .pointer (some _), .pointer none => some false
      | .interface _, .nilIface, .iface _ _ | .interface _, .iface _ _, .nilIface => some false
      | .slice _, .slice none _ _, .slice b _ _ => some b.isNone
      | .slice _, .slice (some _) _ _, .slice none _ _ => some false
      | .map _ _, .map none, .map b => some b.isNone
      | .map _ _, .map (some _), .map none => some false
      | .func _ _ _, .nilFunc, .nilFunc => some true
      | .func _ _ _, .nilFunc, .func _ _ _ | .func _ _ _, .func _ _ _, .nilFunc => some false
      | .struct fields, .agg xs, .agg ys => bif τ.eqOk t then fields.toList.foldr (fun f r =>
          if f.name = "_" then r else
          match partB τ f.type xs.toList f.offset, partB τ f.type ys.toList f.offset with
          | some a, some b => (match eqB τ d f.type a b with | some true => r | some false => some false | none => none)
          | _, _ => none) (some true) else none
      | _, _, _ => none

end Go.Ev
end

section
/-
  What each operation does on the abstract machine.
-/
namespace Go.Ev

noncomputable def zeroV (τ : Tab) (t : TypeId) : Option Value :=
  match τ.inf.get t with
  | some i => (match i.zero with | some z => bif plainV z then some z else none | none => none)
  | none => none

def retV : Sem Value → Option Value
  | .pure v => some v
  | _ => none

def unB (op : UnOp) : Value → Option Value
  | .int k n => retV (Op.unary op (.int k n))
  | .bool b => retV (Op.unary op (.bool b))
  | _ => none

def isEq : BinOp → Bool
  | .eql | .neq => true
  | _ => false

def isConst' : Operand → Bool
  | .const _ => true
  | _ => false

/-! ### integers that are not negative, quickly -/
noncomputable def maxN (k : IntKind) : Nat := IntKind.rec (motive := fun _ => Nat) 127 32767 2147483647 9223372036854775807 255 65535 4294967295 18446744073709551615 k
noncomputable def bitsN (k : IntKind) : Nat := IntKind.rec (motive := fun _ => Nat) 8 16 32 64 8 16 32 64 k
noncomputable def codeN (k : IntKind) : Nat := IntKind.rec (motive := fun _ => Nat) 0 1 2 3 4 5 6 7 k
noncomputable def sameK (k k' : IntKind) : Bool := Nat.beq (codeN k) (codeN k')
/-- A number that fits. -/
noncomputable def fitN (k : IntKind) (n : Nat) : Option Value := Bool.rec (motive := fun _ => Option Value) none (some (.int k (Int.ofNat n))) (Nat.ble n (maxN k))
abbrev FI := IntKind → Nat → Nat → Option Value
noncomputable def fiAdd : FI := fun k x y => fitN k (Nat.add x y)
noncomputable def fiSub : FI := fun k x y => Bool.rec (motive := fun _ => Option Value) none (fitN k (Nat.sub x y)) (Nat.ble y x)
noncomputable def fiMul : FI := fun k x y => fitN k (Nat.mul x y)
noncomputable def fiQuo : FI := fun k x y => Bool.rec (motive := fun _ => Option Value) none (fitN k (Nat.div x y)) (Nat.ble 1 y)
noncomputable def fiRem : FI := fun k x y => Bool.rec (motive := fun _ => Option Value) none (some (.int k (Int.ofNat (Nat.mod x y)))) (Nat.ble 1 y)
noncomputable def fiAnd : FI := fun k x y => Bool.rec (motive := fun _ => Option Value) none (Bool.rec (motive := fun _ => Option Value) none (some (.int k (Int.ofNat (Nat.land x y)))) (Nat.ble y (maxN k))) (Nat.ble x (maxN k))
noncomputable def fiOr : FI := fun k x y => Bool.rec (motive := fun _ => Option Value) none (Bool.rec (motive := fun _ => Option Value) none (some (.int k (Int.ofNat (Nat.lor x y)))) (Nat.ble y (maxN k))) (Nat.ble x (maxN k))
noncomputable def fiXor : FI := fun k x y => Bool.rec (motive := fun _ => Option Value) none (Bool.rec (motive := fun _ => Option Value) none (some (.int k (Int.ofNat (Nat.xor x y)))) (Nat.ble y (maxN k))) (Nat.ble x (maxN k))
noncomputable def fiNone : FI := fun _ _ _ => none
noncomputable def fiEql : FI := fun _ x y => some (.bool (Nat.beq x y))
noncomputable def fiNeq : FI := fun _ x y => some (.bool (!(Nat.beq x y)))
noncomputable def fiLss : FI := fun _ x y => some (.bool (Nat.blt x y))
noncomputable def fiLeq : FI := fun _ x y => some (.bool (Nat.ble x y))
noncomputable def fiGtr : FI := fun _ x y => some (.bool (Nat.blt y x))
noncomputable def fiGeq : FI := fun _ x y => some (.bool (Nat.ble y x))
noncomputable def fastI (op : BinOp) : FI := BinOp.rec (motive := fun _ => FI) fiAdd fiSub fiMul fiQuo fiRem fiAnd fiOr fiXor fiNone fiNone fiNone fiEql fiNeq fiLss fiLeq fiGtr fiGeq op
noncomputable def shN (op : BinOp) : FI := BinOp.rec (motive := fun _ => FI) fiNone fiNone fiNone fiNone fiNone fiNone fiNone fiNone
  (fun k x y => Bool.rec (motive := fun _ => Option Value) none (some (.int k (Int.ofNat (Nat.mod (Nat.shiftLeft x y) (Nat.succ (maxN k)))))) (Nat.blt y (bitsN k) && Nat.ble 4 (codeN k)))
  (fun k x y => Bool.rec (motive := fun _ => Option Value) none (some (.int k (Int.ofNat (Nat.shiftRight x y)))) (Nat.ble y (bitsN k))) fiNone fiNone fiNone fiNone fiNone fiNone fiNone op
noncomputable def orElseO {α : Type} (a b : Option α) : Option α := Option.rec (motive := fun _ => Option α) b (fun v => some v) a
noncomputable def binI (op : BinOp) (t : TypeId) (k : IntKind) (a : Int) (k' : IntKind) (b : Int) : Option Value :=
  Int.rec (motive := fun _ => Option Value) (fun x => Int.rec (motive := fun _ => Option Value)
      (fun y => orElseO (orElseO (shN op k x y) (Bool.rec (motive := fun _ => Option Value) none (fastI op k x y) (sameK k k'))) (retV (binOp op t (.int k (Int.ofNat x)) (.int k' (Int.ofNat y)))))
      (fun y => retV (binOp op t (.int k (Int.ofNat x)) (.int k' (Int.negSucc y)))) b)
    (fun x => retV (binOp op t (.int k (Int.negSucc x)) (.int k' b))) a

noncomputable def binS (op : BinOp) (a b : List UInt8) : Option Value :=
  match op with
  | .add => bif Nat.ble (a.length + b.length) 1099511627776 then some (.string (mkS (a ++ b))) else none
  | .eql => some (.bool (eqS a b))
  | .neq => some (.bool (!eqS a b))
  | .lss => some (.bool (ltS a b))
  | .leq => some (.bool (ltS a b || eqS a b))
  | .gtr => some (.bool !(ltS a b || eqS a b))
  | .geq => some (.bool !ltS a b)
  | _ => none

noncomputable def binB (τ : Tab) (op : BinOp) (t : TypeId) (ox oy : Operand) (x y : Value) : Option Value :=
  match x, y with
  | .int k a, .int k' b => binI op t k a k' b
  | .string a, .string b => binS op a.data.toList b.data.toList
  | .nilIface, .nilIface => bif isConst' ox || isConst' oy then (match τ.ds.get t, op with
      | some (.interface _), .eql => some (.bool true)
      | some (.interface _), .neq => some (.bool false)
      | _, _ => none) else none
  | .pointer (some a), .pointer (some b) => (match τ.ds.get t, τ.inf.get t, op with
      | some (.pointer e), _, .eql => (match τ.inf.get e with
          | some i => bif Nat.beq a.block b.block && !(Nat.beq i.size 0) then some (.bool (Nat.beq a.off b.off)) else none
          | none => none)
      | some (.pointer e), _, .neq => (match τ.inf.get e with
          | some i => bif Nat.beq a.block b.block && !(Nat.beq i.size 0) then some (.bool (!(Nat.beq a.off b.off))) else none
          | none => none)
      | _, _, _ => none)
  | x, y => match op with
    | .eql => (match eqB τ Op.maxDepth t x y with | some b => some (.bool b) | none => none)
    | .neq => (match eqB τ Op.maxDepth t x y with | some b => some (.bool (!b)) | none => none)
    | _ => none

noncomputable def byteList : List Value → Option (List UInt8)
  | [] => some []
  | .int .u8 n :: l => (match byteList l with | some bs => some (UInt8.ofNat n.toNat :: bs) | none => none)
  | _ :: _ => none
noncomputable def runeBytes : List Value → Option (List UInt8)
  | [] => some []
  | .int .i32 n :: l => (match runeBytes l with | some bs => some ((Utf8.encode n).data.toList ++ bs) | none => none)
  | _ :: _ => none

/-- Is one cell an element? -/
noncomputable def unitT (τ : Tab) (e : TypeId) : Bool :=
  match τ.inf.get e with
  | some i => Nat.beq i.size 1
  | none => false

noncomputable def convB (τ : Tab) (src dst : TypeId) (x : Value) (h : Hp) : Res :=
  match τ.ds.get src, τ.ds.get dst with
  | some sd, some dd => match sd, dd, x with
    | _, .int k, .int _ n => some (.int k (k.wrap n), h)
    | _, .string, .int _ n => some (.string (Utf8.encode n), h)
    | _, .string, .string s => some (.string s, h)
    | _, .slice e, .string s => bif unitT τ e then (match τ.ds.get e with
        | some (.int .u8) => some (.slice (some ⟨h.nx, 0, none⟩) s.size s.size, h.new (.cells (T.laid (s.data.toList.map fun b => .int .u8 b.toNat) 0 .nil) s.size e 1 0 false))
        | some (.int .i32) =>
          let l := runesL s.size s.data.toList
          some (.slice (some ⟨h.nx, 0, none⟩) l.length l.length, h.new (.cells (T.laid l 0 .nil) l.length e 0 0 false))
        | _ => none) else none
    | .slice e, .string, .slice none _ _ => (match τ.ds.get e with
        | some (.int .u8) => some (.string .empty, h)
        | some (.int .i32) => some (.string .empty, h)
        | _ => none)
    | .slice e, .string, .slice (some a) len _ => (match τ.ds.get e, h.t.get a.block with
        | some (.int .u8), some (.cells c _ _ _ _ _) => (match gather c len a.off with
            | some l => (match byteList l with | some bs => some (.string ⟨⟨bs⟩⟩, h) | none => none)
            | none => none)
        | some (.int .i32), some (.cells c _ _ _ _ _) => (match gather c len a.off with
            | some l => (match runeBytes l with | some bs => some (.string ⟨⟨bs⟩⟩, h) | none => none)
            | none => none)
        | _, _ => none)
    | .slice _, .slice e, .slice (some a) len cap => bif Nat.beq src dst then (match τ.ds.get e, h.t.get a.block with
        | some (.int .u8), some (.cells c n el 0 0 x) => some (.slice (some a) len cap, h.put a.block (.cells c n el 1 0 x))
        | _, _ => none) else none
    | .pointer t, .unsafePointer, .pointer (some ⟨id, off, none⟩) => (match τ.inf.get t, h.t.get id with
        | some i, some (.cells _ n _ _ _ _) => bif !(Nat.beq i.size 0) && Nat.blt off n then some (ptr id off, h) else none
        | _, _ => none)
    | .unsafePointer, .pointer u, .pointer (some ⟨id, off, none⟩) => (match τ.inf.get u, h.t.get id with
        | some i, some (.cells _ n e _ _ true) => bif Nat.beq u e && !(Nat.beq i.size 0) && Nat.beq (off % i.size) 0 && Nat.ble (off + i.size) n then some (ptr id off, h) else none
        | _, _ => none)
    | _, _, _ => none
  | _, _ => none

noncomputable def indexAddrB (τ : Tab) (t : TypeId) (x ix : Value) : Option Value :=
  match τ.ds.get t, x, asIdx ix with
  | some (.slice e), .slice (some a) len _, some i => (match τ.inf.get e with
      | some inf => bif Nat.blt i len then some (ptr a.block (a.off + i * inf.size)) else none
      | none => none)
  | some (.array len e), .pointer (some ⟨id, off, none⟩), some i => (match τ.inf.get e with
      | some inf => bif Nat.blt i len then some (ptr id (off + i * inf.size)) else none
      | none => none)
  | _, _, _ => none

noncomputable def indexB (τ : Tab) (t : TypeId) (x ix : Value) : Option Value :=
  match τ.ds.get t, x, asIdx ix with
  | some (.array len e), .agg cs, some i => (match τ.inf.get e with
      | some inf => bif Nat.blt i len then partB τ e cs.toList (i * inf.size) else none
      | none => none)
  | some .string, .string s, some i => (match s.data.toList[i]? with | some b => some (.int .u8 b.toNat) | none => none)
  | _, _, _ => none

noncomputable def arrPtrB (τ : Tab) (t : TypeId) (x : Value) : Option Value :=
  match τ.ds.get t, x with
  | some (.array n _), .slice (some a) len _ => bif Nat.ble n len && Nat.blt 0 n then some (ptr a.block a.off) else none
  | _, _ => none

noncomputable def fieldAddrB (τ : Tab) (s : TypeId) (x : Value) (f : Nat) : Option Value :=
  match τ.ds.get s, x with
  | some (.struct fields), .pointer (some ⟨id, off, none⟩) => (match fields.toList[f]? with
      | some fl => (match τ.inf.get fl.type with
          | some i => bif Nat.beq i.size 0 then none else some (ptr id (off + fl.offset))
          | none => none)
      | none => none)
  | _, _ => none

noncomputable def fieldB (τ : Tab) (t : TypeId) (x : Value) (f : Nat) : Option Value :=
  match τ.ds.get t, x with
  | some (.struct fields), .agg cs => (match fields.toList[f]? with
      | some fl => partB τ fl.type cs.toList fl.offset
      | none => none)
  | _, _ => none

/-- A bound of a slice expression; 'd' where there is none. -/
noncomputable def bnd (d : Nat) : Option Value → Option Nat
  | none => some d
  | some v => asIdx v

noncomputable def sliceB (τ : Tab) (t : TypeId) (x : Value) (lo hi mx : Option Value) : Option Value :=
  match τ.ds.get t with
  | none => none
  | some td => match td, x, mx with
    | .string, .string s, none => (match bnd 0 lo, bnd s.size hi with
        | some l, some h => bif Nat.ble l h && Nat.ble h s.size then some (.string (mkS ((s.data.toList.drop l).take (h - l)))) else none
        | _, _ => none)
    | .slice e, .slice (some a) len cap, none => (match bnd 0 lo, bnd len hi, τ.inf.get e with
        | some l, some h, some i => bif Nat.ble l h && Nat.ble h cap then some (.slice (some ⟨a.block, a.off + l * i.size, a.spot⟩) (h - l) (cap - l)) else none
        | _, _, _ => none)
    | .slice e, .slice (some a) _ cap, some m' => (match bnd 0 lo, hi, asIdx m', τ.inf.get e with
        | some l, some hv, some m, some i => (match asIdx hv with
            | some h => bif Nat.ble l h && Nat.ble h m && Nat.ble m cap then some (.slice (some ⟨a.block, a.off + l * i.size, some 0⟩) (h - l) (m - l)) else none
            | none => none)
        | _, _, _, _ => none)
    | .slice e, .slice none 0 0, none => (match bnd 0 lo, bnd 0 hi, τ.inf.get e with
        | some 0, some 0, some _ => some (.slice none 0 0)
        | _, _, _ => none)
    | .slice e, .slice none 0 0, some m' => (match bnd 0 lo, hi, asIdx m', τ.inf.get e with
        | some 0, some hv, some 0, some _ => (match asIdx hv with
          | some 0 => some (.slice none 0 0)
          | _ => none)
        | _, _, _, _ => none)
    | .array n e, .pointer (some ⟨id, off, none⟩), none => (match bnd 0 lo, bnd n hi, τ.inf.get e with
        | some l, some h, some i => bif Nat.ble l h && Nat.ble h n then some (.slice (some ⟨id, off + l * i.size, some 0⟩) (h - l) (n - l)) else none
        | _, _, _ => none)
    | _, _, _ => none

def bigNo (n : Nat) : Bool := Nat.ble n 1099511627776

noncomputable def makeSliceB (τ : Tab) (t : TypeId) (l c : Value) (h : Hp) : Res :=
  match τ.ds.get t, asIdx l, asIdx c with
  | some (.slice e), some l, some c => (match τ.inf.get e, zeroV τ e with
      | some i, some z => bif Nat.ble l c && bigNo (c * i.bytes) && bigNo c && Nat.blt 0 i.size && Nat.beq (cellsOfV z).length i.size then
          some (.slice (some ⟨h.nx, 0, none⟩) l c, rowOf h e (repl (cellsOfV z) c)) else none
      | _, _ => none)
  | _, _, _ => none

/-- The cells of what is appended or copied: how many elements, and the cells. -/
noncomputable def srcB (size : Nat) (h : Hp) : Value → Nat → Option (List Value)
  | .slice none _ _, 0 => some []
  | .slice (some a) _ _, n => (match h.t.get a.block with
      | some (.cells c _ _ _ _ _) => gather c (n * size) a.off
      | _ => none)
  | .string s, n => bif Nat.beq size 1 then some ((s.data.toList.take n).map fun b => .int .u8 b.toNat) else none
  | _, _ => none
def lenB : Value → Option Nat
  | .slice none 0 0 => some 0
  | .slice (some _) n _ => some n
  | .string s => some s.size
  | _ => none

noncomputable def isIntT (τ : Tab) (t : Option TypeId) : Bool :=
  match t with
  | none => false
  | some t => (match τ.ds.get t with | some (.int _) => true | some _ => false | none => true)

noncomputable def appendB (τ : Tab) (ts : List TypeId) (vs : List Value) (h : Hp) : Res :=
  match ts, vs with
  | st :: ts, [s, x] => bif isIntT τ ts.head? then none else (match τ.ds.get st with
    | some (.slice e) => (match τ.inf.get e, lenB x, zeroV τ e with
      | some i, some n, some z => (match srcB i.size h x n with
        | some new => bif Nat.blt 0 i.size && new.all one && Nat.beq (cellsOfV z).length i.size && (cellsOfV z).all one then (match s with
          | .slice none 0 0 => bif Nat.beq n 0 then some (.slice none 0 0, h) else
              bif bigNo (n * i.bytes) && bigNo n then some (.slice (some ⟨h.nx, 0, none⟩) n n, rowA h e new) else none
          | .slice (some a) len cap => bif Nat.ble (len + n) cap then
              (match storeB h a.block (a.off + len * i.size) new with
                | some h' => bif Nat.beq n 0 then some (.slice (some a) len cap, h) else some (.slice (some a) (len + n) cap, h')
                | none => none)
            else bif bigNo ((len + n) * i.bytes) && bigNo (len + n) then (match h.t.get a.block with
              | some (.cells c m e' lo hi _) => bif Nat.beq e e' then (match gather c (len * i.size) a.off with
                | some old => (match a.spot with
                  | some _ => some (.slice (some ⟨h.nx, 0, none⟩) (len + n) (len + n), rowA h e (old ++ new))
                  | none => bif Nat.beq (a.off + cap * i.size) m && (Nat.ble hi lo || (Nat.ble a.off lo && Nat.ble hi (a.off + len * i.size))) then
                      some (.slice (some ⟨h.nx, 0, none⟩) (len + n) (len + n),
                        (h.put a.block .dead).new (.cells (T.laid (old ++ new) 0 .nil) (old ++ new).length e (bif Nat.ble hi lo then lo else lo - a.off) (bif Nat.ble hi lo then hi else hi - a.off) false))
                    else none)
                | none => none) else none
              | _ => none) else none
          | _ => none) else none
        | none => none)
      | _, _, _ => none)
    | _ => none)
  | _, _ => none

noncomputable def copyB (τ : Tab) (ts : List TypeId) (vs : List Value) (h : Hp) : Res :=
  match ts, vs with
  | dt :: _, [d, s] => (match τ.ds.get dt with
    | some (.slice e) => (match τ.inf.get e, lenB d, lenB s with
      | some i, some dn, some sn => (match srcB i.size h s (min sn dn) with
        | some cs => (match d with
          | .slice none _ _ => some (.int .i64 0, h)
          | .slice (some a) _ _ => bif cs.isEmpty then some (.int .i64 (Int.ofNat (min sn dn)), h) else (match storeB h a.block a.off cs with
            | some h' => some (.int .i64 (Int.ofNat (min sn dn)), h')
            | none => none)
          | _ => none)
        | none => none)
      | _, _, _ => none)
    | _ => none)
  | _, _ => none

noncomputable def lenOpB (τ : Tab) (ts : List TypeId) (vs : List Value) (h : Hp) : Option Value :=
  match ts, vs with
  | t :: _, x :: _ => (match τ.ds.get t with
    | none => none
    | some td => (match td, x with
      | .string, .string s => some (.int .i64 (Int.ofNat s.size))
      | .array n _, _ => some (.int .i64 (Int.ofNat n))
      | .slice _, .slice _ n _ => some (.int .i64 (Int.ofNat n))
      | .map _ _, .map none => some (.int .i64 0)
      | .map _ _, .map (some r) => (match h.t.get r with
        | some (.map es _) => some (.int .i64 (Int.ofNat es.length))
        | _ => none)
      | _, _ => none))
  | _, _ => none

noncomputable def foldMM (f : Value → Value → Option Value) : List Value → Value → Option Value
  | [], x => some x
  | y :: l, x => match f x y with | some z => foldMM f l z | none => none
def min2B : Value → Value → Option Value
  | .int k x, .int _ y => some (.int k (if y < x then y else x))
  | _, _ => none
def max2B : Value → Value → Option Value
  | .int k x, .int _ y => some (.int k (if y > x then y else x))
  | _, _ => none

/-! ### maps -/
/-- Is every part of the key compared without more ado? -/
noncomputable def keyTy (τ : Tab) : Nat → TypeId → Value → Bool
  | 0, _, _ => false
  | d + 1, t, v => match τ.ds.get t, v with
    | some (.int k), .int k' _ => sameK k k'
    | some .string, .string _ | some .bool, .bool _ => true
    | some (.struct fields), .agg cs => bif τ.eqOk t then fields.toList.all (fun f => match partB τ f.type cs.toList f.offset with
      | some p => keyTy τ d f.type p
      | none => false) else false
    | _, _ => false
/-- Two keys (without addresses) that are one value, bit for bit. -/
noncomputable def samePlain : Value → Value → Bool
  | .bool a, .bool b => a == b
  | .int j a, .int k b => sameK j k && decide (a = b)
  | .string a, .string b => eqS a.data.toList b.data.toList
  | .pointer none, .pointer none => true
  | _, _ => false
noncomputable def sameCells : List Value → List Value → Bool
  | [], [] => true
  | a :: l, b :: m => samePlain a b && sameCells l m
  | _, _ => false
noncomputable def sameKey : Value → Value → Bool
  | .agg a, .agg b => sameCells a.toList b.toList
  | a, b => samePlain a b
noncomputable def findB (τ : Tab) (kt : TypeId) (k : Value) : List MapEntry → Nat → Option (Option (Nat × MapEntry))
  | [], _ => some none
  | e :: es, i => match eqB τ Op.maxDepth kt k e.key with
    | some true => some (some (i, e))
    | some false => findB τ kt k es (i + 1)
    | none => none

def modAt (l : List MapEntry) (i : Nat) (f : MapEntry → MapEntry) : List MapEntry :=
  match l, i with
  | [], _ => []
  | e :: es, 0 => f e :: es
  | e :: es, i + 1 => e :: modAt es i f

/-- The one entry whose key is equal, in whatever order they stand. -/
noncomputable def findU (τ : Tab) (kt : TypeId) (k : Value) : List (Value × Value) → Option (Option Value)
  | [] => some none
  | p :: es => match eqB τ Op.maxDepth kt k p.1, findU τ kt k es with
    | some true, some none => some (some p.2)
    | some false, some r => some r
    | _, _ => none

noncomputable def lookupB (τ : Tab) (t : TypeId) (x ix : Value) (ok : Bool) (h : Hp) : Option Value :=
  match τ.ds.get t with
  | some (.map kt et) => bif keyTy τ 5 kt ix then
      (let fin (v : Value) (b : Bool) : Value := if ok then .tuple #[v, .bool b] else v
       match x with
       | .map none => (match zeroV τ et with | some z => some (fin z false) | none => none)
       | .map (some r) => (match h.t.get r with
          | some (.map es _) => (match findB τ kt ix es 0 with
            | some (some (_, e)) => some (fin e.val true)
            | some none => (match zeroV τ et with | some z => some (fin z false) | none => none)
            | none => none)
          | some (.umap es) => (match findU τ kt ix es with
            | some (some v) => some (fin v true)
            | some none => (match zeroV τ et with | some z => some (fin z false) | none => none)
            | none => none)
          | _ => none)
       | _ => none) else none
  | _ => none

noncomputable def mapUpdateB (τ : Tab) (t : TypeId) (m k v : Value) (h : Hp) : Option Hp :=
  match τ.ds.get t, m with
  | some (.map kt _), .map (some r) => bif keyTy τ 5 kt k then (match h.t.get r with
      | some (.map es ck) => (match findB τ kt k es 0 with
        | some (some (i, e)) => bif sameKey e.key k then some (h.put r (.map (modAt es i fun e => { e with key := k, val := v }) ck)) else none
        | some none => some (h.put r (.map (es ++ [{ key := k, val := v, born := ck }]) (ck + 1)))
        | none => none)
      | _ => none) else none
  | _, _ => none

noncomputable def mapEntryB (τ : Tab) (t : TypeId) (m k : Value) (h : Hp) : Res :=
  match τ.ds.get t, m with
  | some (.map kt et), .map (some r) => bif keyTy τ 5 kt k then (match h.t.get r with
      | some (.map es ck) => (match findB τ kt k es 0 with
        | some (some (i, e)) => bif sameKey e.key k then
            some (.tuple #[e.val, .int .i64 (Int.ofNat e.born)], h.put r (.map (modAt es i fun e => { e with key := k }) ck)) else none
        | some none => (match zeroV τ et with
          | some z => some (.tuple #[z, .int .i64 (Int.ofNat ck)], h.put r (.map (es ++ [{ key := k, val := z, born := ck }]) (ck + 1)))
          | none => none)
        | none => none)
      | _ => none) else none
  | _, _ => none

def findBorn (n : Nat) : List MapEntry → Nat → Option Nat
  | [], _ => none
  | e :: es, i => bif Nat.beq e.born n then some i else findBorn n es (i + 1)
noncomputable def entryStoreB (m stamp v : Value) (h : Hp) : Option Hp :=
  match m, asIdx stamp with
  | .map (some r), some n => (match h.t.get r with
      | some (.map es ck) => (match findBorn n es 0 with
        | some i => some (h.put r (.map (modAt es i fun e => { e with val := v }) ck))
        | none => none)
      | _ => none)
  | _, _ => none

noncomputable def deleteB (τ : Tab) (ts : List TypeId) (vs : List Value) (h : Hp) : Option Hp :=
  match ts, vs with
  | t :: _, [m, k] => (match τ.ds.get t, m with
    | some (.map kt _), .map none => bif keyTy τ 5 kt k then some h else none
    | some (.map kt _), .map (some r) => bif keyTy τ 5 kt k then (match h.t.get r with
      | some (.map es ck) => (match findB τ kt k es 0 with
        | some (some (i, _)) => some (h.put r (.map (es.eraseIdx i) ck))
        | some none => some (h.put r (.map es ck))
        | none => none)
      | _ => none) else none
    | _, _ => none)
  | _, _ => none

noncomputable def rangeB (τ : Tab) (t : TypeId) (x : Value) (h : Hp) : Res :=
  match τ.ds.get t with
  | none => none
  | some td => match td, x with
    | .string, .string s => some (ptr h.nx 0, h.new (.str s 0))
    | .map _ _, .map none => some (ptr h.nx 0, h.new (.miter none 0 [] 0))
    | .map _ _, .map (some m) => (match h.t.get m with
      | some (.map _ ck) => some (ptr h.nx 0, h.new (.miter (some m) ck [] ck))
      | _ => none)
    | _, _ => none

/-- All that the next step of an iteration may be. -/
noncomputable def nextB (it : Value) (isStr : Bool) (h : Hp) : Option (List (Value × Hp)) :=
  match it with
  | .pointer (some ⟨r, 0, none⟩) => (match h.t.get r, isStr with
    | some (.str s pos), true => bif Nat.blt pos s.size then
        some [(.tuple #[.bool true, .int .i64 (Int.ofNat pos), .int .i32 (Int.ofNat (decL (s.data.toList.drop pos)).1)], h.put r (.str s (pos + (decL (s.data.toList.drop pos)).2)))]
        else some [(.tuple #[.bool false], h)]
    | some (.miter none _ _ _), false => some [(.tuple #[.bool false], h)]
    | some (.miter (some m) since seen last), false => (match h.t.get m with
      | some (.map es ck) => bif !seen.isEmpty && !es.isEmpty && es.all (fun e => Nat.ble last e.born) then none else
        bif es.all (fun e => Nat.blt e.born since) then (match es.filter (fun e => !seen.contains e.born) with
          | [] => some [(.tuple #[.bool false], h)]
          | l => some (l.map fun e => (.tuple #[.bool true, e.key, e.val], h.put r (.miter (some m) since (seen ++ [e.born]) ck)))) else none
      | _ => none)
    | _, _ => none)
  | _ => none

noncomputable def entryB (it : Value) (h : Hp) : Option Value :=
  match it with
  | .pointer (some ⟨r, 0, none⟩) => (match h.t.get r with
    | some (.miter (some m) _ seen last) => (match seen.getLast?, h.t.get m with
      | some st, some (.map es ck) => bif Nat.beq ck last then (match es.find? (fun e => e.born == st) with
        | some e => some (.tuple #[e.key, e.val])
        | none => none) else none
      | _, _ => none)
    | _ => none)
  | _ => none

/-! ### interfaces -/
noncomputable def assertB (τ : Tab) (x : Value) (asserted : TypeId) (ok : Bool) : Option Value :=
  let fails : Option Value := bif ok then (match zeroV τ asserted with | some z => some (.tuple #[z, .bool false]) | none => none) else none
  let holds (v : Value) : Option Value := some (if ok then .tuple #[v, .bool true] else v)
  match τ.ds.get asserted with
  | none => none
  | some td => match td, x with
    | .interface _, .nilIface => fails
    | .interface want, .iface t v => (match τ.inf.get t with
      | some i => (match Instr.missingMethod want i.methods with
        | none => holds (.iface t v)
        | some _ => fails)
      | none => none)
    | _, .nilIface => fails
    | _, .iface t v => if t = asserted then holds v else fails
    | _, _ => none

noncomputable def methB (τ : Tab) (h : Hp) (t : TypeId) (v : Value) (name : String) : Option (FuncId × Value) :=
  match τ.inf.get t, τ.ds.get t with
  | some i, some td => (match i.methods.find? (·.name == name) with
    | some m => bif m.path.isEmpty then (match m.func, td with
      | some (f, true), .pointer _ => some (f, v)
      | some (f, false), .pointer e => (match v with
        | .pointer (some ⟨id, off, none⟩) => (match loadAtB τ e h id off with | some r => some (f, r) | none => none)
        | _ => none)
      | some (f, false), _ => some (f, v)
      | _, _ => none) else none
    | none => none)
  | _, _ => none

/-! ### externs -/
noncomputable def bytesB (h : Hp) : Value → Option (List UInt8)
  | .string s => some s.data.toList
  | .slice none _ _ => some []
  | .slice (some a) n _ => (match h.t.get a.block with
    | some (.cells c _ _ _ _ _) => (match gather c n a.off with
      | some l => byteList l
      | none => none)
    | _ => none)
  | _ => none
noncomputable def extB (τ : Tab) (e : ExtK) (vs : List Value) (h : Hp) : Res :=
  match e, vs with
  | .noEscape, [x] => some (x, h)
  | .indexByte, [.string s, .int .u8 c] =>
      (match s.data.toList.findIdx? (· == UInt8.ofNat c.toNat) with
        | some i => some (.int .i64 (Int.ofNat i), h)
        | none => some (.int .i64 (-1), h))
  | .count, [.string s, .int .u8 c] => some (.int .i64 (Int.ofNat (s.data.toList.foldl (fun n x => if x == UInt8.ofNat c.toNat then n + 1 else n) 0)), h)
  | .makeNoZero e, [.int .i64 (.ofNat n)] => bif bigNo n then some (.slice (some ⟨h.nx, 0, none⟩) n n, h.new (.cells .nil n e 0 0 false)) else none
  | _, _ => none

/-- 'append(nil, make([]T, n)...)': the count is handed on. -/
noncomputable def appendZB (τ : Tab) (ts : List TypeId) (vs : List Value) (h : Hp) : Res :=
  match ts, vs with
  | st :: t2 :: _, [.slice none 0 0, .int .i64 (.ofNat n)] => (match τ.ds.get t2, τ.ds.get st with
    | some (.int _), some (.slice e) => (match τ.inf.get e, zeroV τ e with
      | some i, some z => bif Nat.blt 0 n && bigNo (n * i.bytes) && bigNo n && Nat.blt 0 i.size && Nat.beq (cellsOfV z).length i.size then some (.slice (some ⟨h.nx, 0, none⟩) n n, rowA h e (repl (cellsOfV z) n)) else none
      | _, _ => none)
    | _, _ => none)
  | _, _ => none

noncomputable def capB (τ : Tab) (ts : List TypeId) (vs : List Value) : Option Value :=
  match ts, vs with
  | t :: _, x :: _ => (match τ.ds.get t, x with
    | some (.slice _), .slice none _ n => some (.int .i64 (Int.ofNat n))
    | some (.slice _), .slice (some ⟨_, _, some _⟩) _ n => some (.int .i64 (Int.ofNat n))
    | some (.array n _), _ => some (.int .i64 (Int.ofNat n))
    | _, _ => none)
  | _, _ => none

noncomputable def unsafeStringB (τ : Tab) (ts : List TypeId) (vs : List Value) (h : Hp) : Res :=
  match ts, vs with
  | pt :: _, [.pointer none, .int _ 0] => some (.string .empty, h)
  | pt :: _, [.pointer (some ⟨id, off, none⟩), .int _ (.ofNat n)] =>
    bif Nat.beq n 0 then some (.string .empty, h) else bif bigNo n then
    (match τ.ds.get pt, h.t.get id with
      | some (.pointer u), some (.cells c m e lo hi x) => bif Nat.beq u e && !(Nat.beq lo 1 && Nat.beq hi 0) && Nat.ble (off + n) m then
        (match τ.ds.get e, τ.inf.get e, gather c n off with
          | some (.int .u8), some i, some l => (match byteList l with
            | some bs => bif Nat.beq i.size 1 then some (.string ⟨⟨bs⟩⟩, h.put id (.cells c m e (bif Nat.ble hi lo then off else min lo off) (bif Nat.ble hi lo then off + n else max hi (off + n)) x)) else none
            | none => none)
          | _, _, _ => none) else none
      | _, _ => none) else none
  | _, _ => none

noncomputable def unsafeSliceDataB : List Value → Option Value
  | [.slice none _ _] => some (.pointer none)
  | [.slice (some ⟨id, off, _⟩) _ c] => bif Nat.beq c 0 then none else some (.pointer (some ⟨id, off, none⟩))
  | _ => none

noncomputable def clearB (τ : Tab) (ts : List TypeId) (vs : List Value) (h : Hp) : Option Hp :=
  match ts, vs with
  | t :: _, [x] => (match τ.ds.get t, x with
    | some (.slice _), .slice none _ _ => some h
    | some (.slice _), .slice (some _) 0 _ => some h
    | some (.slice e), .slice (some a) (n + 1) _ => (match τ.inf.get e, zeroV τ e with
      | some i, some z => bif Nat.beq (cellsOfV z).length i.size && Nat.blt 0 i.size then storeB h a.block a.off (repl (cellsOfV z) (n + 1)) else none
      | _, _ => none)
    | some (.map _ _), .map none => some h
    | some (.map _ _), .map (some r) => (match h.t.get r with
      | some (.map _ ck) => some (h.put r (.map [] ck))
      | _ => none)
    | _, _ => none)
  | _, _ => none

noncomputable def builtinB (τ : Tab) (b : Builtin) (ts : List TypeId) (vs : List Value) (h : Hp) : Res :=
  match b with
  | .append => (match appendB τ ts vs h with | some r => some r | none => appendZB τ ts vs h)
  | .cap => (match capB τ ts vs with | some v => some (v, h) | none => none)
  | .unsafeString => unsafeStringB τ ts vs h
  | .unsafeSliceData => (match unsafeSliceDataB vs with | some v => some (v, h) | none => none)
  | .len => (match lenOpB τ ts vs h with | some v => some (v, h) | none => none)
  | .copy => copyB τ ts vs h
  | .min => (match vs with | x :: l => (match foldMM min2B l x with | some v => some (v, h) | none => none) | [] => none)
  | .max => (match vs with | x :: l => (match foldMM max2B l x with | some v => some (v, h) | none => none) | [] => none)
  | .clear => (match clearB τ ts vs h with | some h' => some (.tuple #[], h') | none => none)
  | .delete => (match deleteB τ ts vs h with | some h' => some (.tuple #[], h') | none => none)
  | _ => none
end Go.Ev
end

section
/-
  The abstract machine: regions, code, functions. Every way is followed; a result is the list of what the ways end in; 'none': something is not taken in.
-/
namespace Go.Ev

/-- What a way may end in. -/
inductive Out where
  | val (v : Value) (h : Hp)
  | frm (fr : Fr) (h : Hp)
  | flat (n : Nat) (l : List Value)
abbrev RR := Option (List Out)
def joinR : RR → RR → RR
  | some a, some b => some (a ++ b)
  | _, _ => none

noncomputable def evo (τ : Tab) (fr : Fr) : Option Operand → Option (Option Value)
  | none => some none
  | some o => (match ev τ fr o with | some v => some (some v) | none => none)

noncomputable def evps (τ : Tab) (fr : Fr) : List (Nat × Operand) → Option (List (Nat × Value))
  | [] => some []
  | (i, o) :: l => match ev τ fr o, evps τ fr l with
    | some v, some vs => some ((i, v) :: vs)
    | _, _ => none

def ok1 (h : Hp) : Option Value → Res
  | some v => some (v, h)
  | none => none
def okU : Option Hp → Res
  | some h => some (.tuple #[], h)
  | none => none

noncomputable def buildB (τ : Tab) (t : TypeId) (ps : List (Nat × Value)) : Option Value :=
  match τ.ds.get t, zeroV τ t with
  | some (.struct fields), some z => bif fields.toList.all (fun f => (τ.inf.get f.type).isSome) then (match fillB (fun i => match fields.toList[i]? with
      | some f => (match τ.inf.get f.type with | some inf => some (f.offset, inf.size) | none => none)
      | none => none) ps (cellsOfV z) with
    | some cs => some (.agg ⟨cs⟩)
    | none => none) else none
  | some (.array _ e), some z => (match τ.inf.get e with
    | some inf => (match fillB (fun i => some (i * inf.size, inf.size)) ps (cellsOfV z) with
      | some cs => some (.agg ⟨cs⟩)
      | none => none)
    | none => none)
  | _, _ => none

noncomputable def buildSliceB (τ : Tab) (t : TypeId) (len : Nat) (ps : List (Nat × Value)) (h : Hp) : Res :=
  match τ.ds.get t with
  | some (.slice e) => (match τ.inf.get e, zeroV τ e with
    | some i, some z => bif Nat.blt 0 i.size && Nat.beq (cellsOfV z).length i.size && Nat.ble (len * i.size) 16777216 then
        (match fillB (fun k => some (k * i.size, i.size)) ps (repl (cellsOfV z) len) with
          | some cs => some (.slice (some ⟨h.nx, 0, none⟩) len len, rowOf h e cs)
          | none => none) else none
    | _, _ => none)
  | _ => none

noncomputable def boxB (τ : Tab) (t : TypeId) (v : Value) (h : Hp) : Res := some (ptr h.nx 0, rowOf h t (cellsOfV v))

/-- An operation that calls nothing, and goes one way. -/
noncomputable def leafB (τ : Tab) (fr : Fr) (h : Hp) (o : Op) : Res :=
  match o with
  | .move x | .assign x => ok1 h (ev τ fr x)
  | .pick c a b => (match ev τ fr c with
    | some (.bool t) => ok1 h (ev τ fr (if t then a else b))
    | _ => none)
  | .alloc t => (match zeroV τ t with | some z => boxB τ t z h | none => none)
  | .box t x => (match ev τ fr x with | some v => boxB τ t v h | none => none)
  | .build t ps => (match evps τ fr ps.toList with | some vs => ok1 h (buildB τ t vs) | none => none)
  | .buildSlice t n ps => (match evps τ fr ps.toList with | some vs => buildSliceB τ t n vs h | none => none)
  | .load t a => (match ev τ fr a with | some (.pointer (some ⟨id, off, none⟩)) => ok1 h (loadAtB τ t h id off) | _ => none)
  | .store t a x => (match ev τ fr a, ev τ fr x with
    | some (.pointer (some ⟨id, off, none⟩)), some v => okU (storeAtB τ t h id off v)
    | _, _ => none)
  | .nilCheck x => (match ev τ fr x with
    | some (.pointer (some a)) => some (.pointer (some a), h)
    | some (.func (.func f) a b) => some (.func (.func f) a b, h)
    | some (.func (.via t p f r) a b) => some (.func (.via t p f r) a b, h)
    | some (.iface t v) => some (.iface t v, h)
    | _ => none)
  | .binOp op t x y _ => (match ev τ fr x, ev τ fr y with | some a, some b => ok1 h (binB τ op t x y a b) | _, _ => none)
  | .unOp op _ x => (match ev τ fr x with | some v => ok1 h (unB op v) | none => none)
  | .convert s d x => (match ev τ fr x with | some v => convB τ s d v h | none => none)
  | .makeInterface t x => (match ev τ fr x, τ.ds.get t with
    | some _, some (.interface _) => none
    | some v, some _ => some (.iface t v, h)
    | _, _ => none)
  | .makeFunc fn first cap => (match evs τ fr first.toList, evs τ fr cap.toList with
    | some a, some b => (match fn with
      | .yield _ => none
      | fn => some (.func fn ⟨a⟩ ⟨b⟩, h))
    | _, _ => none)
  | .makeMap t r => (match evo τ fr r with
    | some none => some (.map (some h.nx), h.new (.map [] 0))
    | some (some (.int _ _)) => (match τ.ds.get t with | some (.map _ _) => some (.map (some h.nx), h.new (.map [] 0)) | _ => none)
    | _ => none)
  | .makeSlice t l c => (match ev τ fr l, ev τ fr c with | some a, some b => makeSliceB τ t a b h | _, _ => none)
  | .slice t x lo hi mx => (match ev τ fr x, evo τ fr lo, evo τ fr hi, evo τ fr mx with
    | some v, some a, some b, some c => ok1 h (sliceB τ t v a b c)
    | _, _, _, _ => none)
  | .fieldAddr s x f => (match ev τ fr x with | some v => ok1 h (fieldAddrB τ s v f) | none => none)
  | .field t x f => (match ev τ fr x with | some v => ok1 h (fieldB τ t v f) | none => none)
  | .indexAddr t x i => (match ev τ fr x, ev τ fr i with | some a, some b => ok1 h (indexAddrB τ t a b) | _, _ => none)
  | .index t x i => (match ev τ fr x, ev τ fr i with | some a, some b => ok1 h (indexB τ t a b) | _, _ => none)
  | .lookup t x i ok => (match ev τ fr x, ev τ fr i with | some a, some b => ok1 h (lookupB τ t a b ok h) | _, _ => none)
  | .mapUpdate t m k x | .insert t m k x => (match ev τ fr m, ev τ fr k, ev τ fr x with
    | some a, some b, some c => okU (mapUpdateB τ t a b c h)
    | _, _, _ => none)
  | .mapEntry t m k => (match ev τ fr m, ev τ fr k with | some a, some b => mapEntryB τ t a b h | _, _ => none)
  | .entryStore _ m s x => (match ev τ fr m, ev τ fr s, ev τ fr x with | some a, some b, some c => okU (entryStoreB a b c h) | _, _, _ => none)
  | .range t x => (match ev τ fr x with | some v => rangeB τ t v h | none => none)
  | .entry it => (match ev τ fr it with | some v => ok1 h (entryB v h) | none => none)
  | .typeAssert x _ t ok => (match ev τ fr x with | some v => ok1 h (assertB τ v t ok) | none => none)
  | .extract t i => (match ev τ fr t with | some (.tuple vs) => ok1 h vs.toList[i]? | _ => none)
  | .sliceToArrayPointer t x => (match ev τ fr x with | some v => ok1 h (arrPtrB τ t v) | none => none)
  | _ => none

/-- A function of the program, entered: what follows a return, what follows a panic. -/
abbrev CallF := Fn → List Value → Hp → (Value → Hp → RR) → (Value → Hp → RR) → RR

section
variable (τ : Tab) (call : CallF)

noncomputable def callMethodB (recv : Value) (name : String) (args : List Value) (h : Hp) (k kp : Value → Hp → RR) : RR :=
  match recv with
  | .iface t v => (match methB τ h t v name with
    | some (f, r) => call (.func f) (r :: args) h k kp
    | none => none)
  | _ => none

noncomputable def callV (fv : Value) (args : List Value) (h : Hp) (k kp : Value → Hp → RR) : RR :=
  match fv with
  | .func (.func f) first cap => call (.func f) (first.toList ++ args ++ cap.toList) h k kp
  | .func (.yield l) first _ => call (.yield l) (first.toList ++ args) h k kp
  | .func (.method name) first _ => (match first.toList ++ args with
    | recv :: rest => callMethodB τ call recv name rest h k kp
    | [] => none)
  | .func (.via t path f pr) first _ => (match first.toList ++ args with
    | x :: rest => bif path.isEmpty then (match τ.ds.get t, pr with
      | some (.pointer _), true => call (.func f) (x :: rest) h k kp
      | some (.pointer _), false => none
      | some _, false => call (.func f) (x :: rest) h k kp
      | _, _ => none) else none
    | [] => none)
  | _ => none

noncomputable def callB (fr : Fr) (h : Hp) (c : Call) (k kp : Value → Hp → RR) : RR :=
  match evs τ fr c.args.toList with
  | none => none
  | some vs => match c.callee with
    | .builtin b => (match builtinB τ b c.argTypes.toList vs h with | some (v, h') => k v h' | none => none)
    | .invoke r name => (match ev τ fr r with | some recv => callMethodB τ call recv name vs h k kp | none => none)
    | .value f => (match ev τ fr f with | some fv => callV τ call fv vs h k kp | none => none)

noncomputable def kAll (k : Value → Hp → RR) : List (Value × Hp) → RR
  | [] => some []
  | (v, h) :: l => joinR (k v h) (kAll k l)

noncomputable def opK (fr : Fr) (h : Hp) (o : Op) (k kp : Value → Hp → RR) : RR :=
  match o with
  | .call c => callB τ call fr h c k kp
  | .next it s => (match ev τ fr it with
    | some v => (match nextB v s h with
      | some [(v', h')] => k v' h'
      | some l => kAll k l
      | none => none)
    | none => none)
  | .panic x => (match ev τ fr x with
    | some (.iface t v) => kp (.iface t v) h
    | _ => none)
  | o => (match leafB τ fr h o with | some (v, h') => k v h' | none => none)

/-- The frame with a result laid into its place. -/
noncomputable def Fr.set (fr : Fr) (d : Option Tmp) (v : Value) : Option Fr :=
  match d with
  | none => some fr
  | some t => bif Nat.blt t fr.sz then some (match fr with | ⟨tm, sz, ds⟩ => ⟨tm.ins t v, sz, ds⟩) else none

/-- Is the operation carried out? -/
noncomputable def wantB (fr : Fr) (ops : List Oper) : Option (Nat × Bool) → Option Bool
  | none => some true
  | some (j, want) => match ops[j]? with
    | some o => (match o.dst with
      | some t => (match fr.tm.get t with | some (.bool b) => some (b == want) | some _ => some false | none => none)
      | none => none)
    | none => none

noncomputable def deferB (fr : Fr) (c : Call) : Option Deferred :=
  match c.callee, evs τ fr c.args.toList with
  | .value f, some vs => (match ev τ fr f with
    | some (.func (.func g) first cap) => some { target := .fn (.func g) cap, args := ⟨first.toList ++ vs⟩ }
    | _ => none)
  | _, _ => none

noncomputable def operK (ro : Option Nat) (fr : Fr) (h : Hp) (o : Oper) (k : Fr → Hp → RR) (kp : Value → Hp → RR) : RR :=
  match o.op with
  | .defer c => (match deferB τ fr c, ro, o.dst with
    | some d, none, none => k (match fr with | ⟨tm, sz, ds⟩ => ⟨tm, sz, d :: ds⟩) h
    | _, _, _ => none)
  | op => opK τ call fr h op (fun v h' => match fr.set o.dst v with | some fr' => k fr' h' | none => none) kp

/-- A region whose order is the text's. -/
noncomputable def regK (ro : Option Nat) (ops : List Oper) (kp : Value → Fr → Hp → RR) (k : Fr → Hp → RR) : List Oper → Fr → Hp → RR
  | [], fr, h => k fr h
  | o :: l, fr, h => match wantB fr ops o.guard with
    | some true => operK τ call ro fr h o (fun fr' h' => regK ro ops kp k l fr' h') (fun v h' => kp v fr h')
    | some false => (match fr.set o.dst (.tuple #[]) with | some fr' => regK ro ops kp k l fr' h | none => none)
    | none => none

/-- An operation that neither looks at memory nor makes any: what it yields hangs on its operands alone. -/
def quietOp : Op → Bool
  | .move _ | .assign _ | .pick .. | .binOp .. | .unOp .. | .fieldAddr .. | .field .. | .indexAddr .. | .index .. | .extract .. | .makeInterface .. | .nilCheck _ | .slice .. | .makeFunc .. | .sliceToArrayPointer .. => true
  | _ => false
/-- Are two operations ordered? 'b': for each the bits of those before it. -/
def compB (b : List Nat) (i j : Nat) : Bool := bif Nat.ble j i then (b.getD i 0).testBit j else (b.getD j 0).testBit i
/-- What an operation does to memory that was there: nothing; looks at one block; looks a key up in a map of type t, without asking whether it is there; looks at whatever; writes blocks, and looks at whatever (me: it gives a map of this type an entry). -/
inductive Eff where
  | non
  | rd (id : Nat)
  | lk (id : Nat) (t : TypeId)
  | rdAll
  | wr (s : WS) (me : Option TypeId)
  | bad
def Eff.ok : Eff → Bool
  | .bad => false
  | _ => true
/-- Does it take in one of the blocks from nx on, below nx'? -/
def WS.meets (s : WS) (nx nx' : Nat) : Bool := match s with
  | .no => false
  | .one b => Nat.ble nx b && Nat.blt b nx'
  | .rest lo => Nat.blt nx nx' && Nat.blt lo nx'
  | .pair b lo => (Nat.ble nx b && Nat.blt b nx') || (Nat.blt nx nx' && Nat.blt lo nx')
def isMe (t : TypeId) : Option TypeId → Bool
  | none => false
  | some t' => Nat.beq t t'
/-- May the later operation not be carried out before the earlier one? The earlier one has made the blocks from nx on, below nx'. -/
def clash : Eff → Eff → Nat → Nat → Bool
  | .rd a, .wr s _, _, _ => s.hasB a
  | .lk a t, .wr s me, _, _ => s.hasB a && !isMe t me
  | .rdAll, .wr _ _, _, _ => true
  | .wr s _, .non, nx, nx' => s.meets nx nx'
  | .wr s _, .rd a, _, _ => s.hasB a
  | .wr s me, .lk a t, _, _ => s.hasB a && !isMe t me
  | .wr _ _, .rdAll, _, _ => true
  | .wr _ _, .wr _ _, _, _ => true
  | _, _, _, _ => false
/-- The block that stands by itself. -/
def WS.top : WS → Option Nat
  | .one b => some b
  | .pair b _ => some b
  | _ => none
/-- What an operation does that may look at whatever. -/
noncomputable def genE (h : Hp) (s : WS) : Eff := bif s.noOld h.nx then .rdAll else match s with
  | .one b => (match h.t.get b with | some hb => bif hb.live then .wr s none else .bad | none => .bad)
  | .pair b _ => (match h.t.get b with | some hb => bif hb.live then .wr s none else .bad | none => .bad)
  | s => .wr s none
/-- A map has been given an entry. -/
def meE (t : TypeId) (r : Nat) : Eff → Eff
  | .wr (.one b) _ => bif Nat.beq b r then .wr (.one b) (some t) else .wr (.one b) none
  | e => e
noncomputable def effOf (τ : Tab) (fr : Fr) (o : Op) (h : Hp) (lo : WS) : Eff :=
  bif quietOp o then .non else match o with
  | .alloc _ | .box .. | .build .. | .buildSlice .. | .makeSlice .. | .makeMap .. => .non
  | .load _ a => (match ev τ fr a with
    | some (.pointer (some ⟨id, _, none⟩)) => .rd id
    | _ => genE h lo)
  | .lookup t m _ ok => (match ev τ fr m with
    | some (.map (some r)) => bif ok then .rd r else .lk r t
    | _ => genE h lo)
  | .mapEntry t m _ => (match ev τ fr m with
    | some (.map (some r)) => meE t r (genE h lo)
    | _ => genE h lo)
  | .convert _ _ x => (match ev τ fr x with
    | some (.int _ _) | some (.string _) => .non
    | _ => genE h lo)
  | .call { callee := .builtin .len, args, .. } => (match evs τ fr args.toList with
    | some [.slice _ _ _] | some [.string _] => .non
    | _ => genE h lo)
  | _ => genE h lo
noncomputable def Eff.force {β : Type} (e : Eff) (k : Eff → β) : β := Eff.rec (motive := fun _ => β) (k .non) (fun a => k (.rd a)) (fun a t => k (.lk a t)) (k .rdAll) (fun s me => k (.wr s me)) (k .bad) e
abbrev Log := List (Nat × Eff × Nat × Nat)
/-- Does an operation's effect go together with those of all that are not ordered against it? -/
def goesWith (b : List Nat) (i : Nat) (e : Eff) (log : Log) : Bool := e.ok && log.all fun (j, e', nx, nx') => !(clash e e' nx nx') || compB b i j
def logIn (i : Nat) (e : Eff) (nx nx' : Nat) (log : Log) : Log :=
  match e with
  | .non => bif Nat.blt nx nx' then (i, .non, nx, nx') :: log else log
  | e => (i, e, nx, nx') :: log
/-- No operation but number j lays into temporary t. -/
def soleFrom (t j : Nat) : Nat → List Oper → Bool
  | _, [] => true
  | i, o :: l => (Nat.beq i j || (match o.dst with | some d => !(Nat.beq d t) | none => true)) && soleFrom t j (Nat.succ i) l
def soleB (ops : List Oper) : Option (Nat × Bool) → Bool
  | none => true
  | some (j, _) => match ops[j]? with
    | some o => (match o.dst with | some t => soleFrom t j 0 ops | none => false)
    | none => false

/-- A region whose order is drawn: operations that are not ordered against each other may not get in each other's way. -/
noncomputable def drawK (ops : List Oper) (b : List Nat) (k : Fr → Hp → RR) : List Oper → Nat → Log → Fr → Hp → RR
  | [], _, _, fr, h => k fr h
  | o :: l, i, log, fr, h => bif soleB ops o.guard then (match wantB fr ops o.guard with
    | some true => (match opK τ call fr h.mark o.op (fun v h' => match fr.set o.dst v with | some fr' => some [.frm fr' h'] | none => none) (fun _ _ => none) with
        | some [.frm fr' h'] => (effOf τ fr o.op h h'.lo).force fun e =>
          bif goesWith b i e log then drawK ops b k l (Nat.succ i) (logIn i e h.nx h'.nx log) fr' (h.back h') else none
        | _ => none)
    | some false => (match fr.set o.dst (.tuple #[]) with | some fr' => drawK ops b k l (Nat.succ i) log fr' h | none => none)
    | none => none) else none

structure Kt where
  n : Fr → Hp → RR
  x : Nat → Fr → Hp → RR
  r : Fr → Hp → RR
  p : Value → Fr → Hp → RR

noncomputable def loopK (body : Kt → Fr → Hp → RR) : Nat → Kt → Fr → Hp → RR
  | 0, _, _, _ => none
  | n + 1, K, fr, h => body { n := fun fr h => loopK body n K fr h, x := K.x, r := K.r, p := K.p } fr h

noncomputable def regionK (ro : Option Nat) (ops : Array Oper) (draw : Bool) (K : Kt) (fr : Fr) (h : Hp) : RR :=
  match draw with
  | false => regK τ call ro ops.toList K.p K.n ops.toList fr h
  | true => drawK τ call ops.toList (Region.before ops).toList K.n ops.toList 0 [] fr h

noncomputable def condK (a b : Kt → Fr → Hp → RR) (K : Kt) (fr : Fr) (h : Hp) : Option Value → RR
  | some (.bool t) => (match t with | true => a K fr h | false => b K fr h)
  | _ => none

/-- A range over a function has ended: what a round has left to do. -/
noncomputable def endRangeK (l : Nat) (K : Kt) (fr : Fr) (h : Hp) : RR :=
  match h.t.get l with
  | some (.loop st pend tm sz ps as body d) => (match st with
    | .busy => none
    | _ => (match pend with
      | none => K.n fr (h.put l (.loop .exhausted pend tm sz ps as body d))
      | some .ret => K.r fr (h.put l (.loop .exhausted pend tm sz ps as body d))
      | some (.exit id) => K.x id fr (h.put l (.loop .exhausted pend tm sz ps as body d))
      | _ => none))
  | _ => none
/-- A function that has a body is called, with yield. -/
noncomputable def callR (fv : Value) (l : Nat) (h : Hp) (k kp : Value → Hp → RR) : RR :=
  match fv with
  | .func (.func f) first cap => (match τ.fn.get f with
    | some fn => bif fn.body.isSome then call (.func f) (first.toList ++ [.func (.yield l) #[] #[]] ++ cap.toList) h k kp else none
    | none => none)
  | _ => none
noncomputable def rangeK (ro : Option Nat) (ps : Array Tmp) (assign body : Code) (K : Kt) (fr : Fr) (h : Hp) : Option Value → RR
  | some fv => (match ro with
    | none =>
      let l := Nat.succ h.nx
      let h' := (h.new (.dfr false)).new (.loop .ready none fr.tm fr.sz ps.toList assign body h.nx)
      let fr' : Fr := match fr with | ⟨tm, sz, ds⟩ => ⟨tm, sz, { target := .collected h.nx, args := #[] } :: ds⟩
      callR τ call fv l h' (fun _ h'' => endRangeK l K fr' h'') (fun _ _ => none)
    | some l0 => (match h.t.get l0 with
      | some (.loop _ _ _ _ _ _ _ d) =>
        callR τ call fv h.nx (h.new (.loop .ready none fr.tm fr.sz ps.toList assign body d)) (fun _ h'' => endRangeK h.nx K fr h'') (fun _ _ => none)
      | _ => none))
  | none => none

noncomputable def codeK (L : Nat) (ro : Option Nat) : Code → Kt → Fr → Hp → RR
  | .skip, K, fr, h => K.n fr h
  | .label _, K, fr, h => K.n fr h
  | .region _ ops draw, K, fr, h => regionK τ call ro ops draw K fr h
  | .seq a b, K, fr, h => codeK L ro a { n := fun fr h => codeK L ro b K fr h, x := K.x, r := K.r, p := K.p } fr h
  | .cond c a b, K, fr, h => condK (codeK L ro a) (codeK L ro b) K fr h (ev τ fr c)
  | .block id c, K, fr, h => codeK L ro c { n := K.n, x := fun id' fr h => bif Nat.beq id' id then K.n fr h else K.x id' fr h, r := K.r, p := K.p } fr h
  | .loop c, K, fr, h => loopK (codeK L ro c) L K fr h
  | .scope c, K, fr, h => codeK L ro c K fr h
  | .rangeFunc f ps as body, K, fr, h => rangeK τ call ro ps as body K fr h (ev τ fr f)
  | .exit id, K, fr, h => K.x id fr h
  | .ret, K, fr, h => K.r fr h
  | _, _, _, _ => none

/-- What a function hands back. -/
noncomputable def resB (fr : Fr) (h : Hp) : List ResultVar → Option (List Value)
  | [] => some []
  | .tmp t :: l => (match fr.tm.get t, resB fr h l with | some v, some vs => some (v :: vs) | _, _ => none)
  | .cell a t :: l => (match fr.tm.get a with
    | some (.pointer (some ⟨id, off, none⟩)) => (match loadAtB τ t h id off, resB fr h l with | some v, some vs => some (v :: vs) | _, _ => none)
    | _ => none)
def tupV : List Value → Value
  | [v] => v
  | vs => .tuple ⟨vs⟩

noncomputable def frame0 (args : List Value) (n : Nat) : Option Fr := bif Nat.ble args.length n then some ⟨T.laid args 0 .nil, n, []⟩ else none

/-- The function's end: what was deferred is called first. 'dv': deferred functions that are summed up. -/
noncomputable def endK (dv : FuncId → Option (List Value → Hp → Option Hp)) (rs : List ResultVar) (fr : Fr) (k : Value → Hp → RR) : List Deferred → Hp → RR
  | [], h => (match resB τ fr h rs with | some vs => k (tupV vs) h | none => none)
  | { target := .fn (.func f) cap, args } :: ds, h => (match dv f with
    | some g => (match g (args.toList ++ cap.toList) h with
      | some h' => endK dv rs fr k ds h'
      | none => none)
    | none => none)
  | { target := .collected b, .. } :: ds, h => (match h.t.get b with
    | some (.dfr false) => endK dv rs fr k ds (h.put b (.dfr true))
    | _ => none)
  | _ :: _, _ => none
end

/-- A result without addresses, in new memory: a slice's length, its cells. -/
noncomputable def flatB (h : Hp) (nx : Nat) (e : TypeId) (size : Nat) : Value → Option (Nat × List Value)
  | .slice (some a) len cap => (match h.t.get a.block with
    | some (.cells c n el 0 0 _) => bif Nat.ble nx a.block && Nat.beq el e && Nat.ble (a.off + cap * size) n && Nat.ble len cap then (match gather c (len * size) a.off with
      | some l => bif l.all plainCell then some (len, l) else none
      | none => none) else none
    | _ => none)
  | _ => none

/-- A piece of code that is summed up. -/
abbrev HookF := Fr → Hp → Option (Fr × Hp)
def flatC : Code → List Code
  | .seq a b => flatC a ++ flatC b
  | c => [c]
/-- Codes one behind the other, of which some are summed up. -/
noncomputable def seqK (τ : Tab) (call : CallF) (L : Nat) (ro : Option Nat) (g : Nat → Option HookF) : List Code → Nat → Kt → Fr → Hp → RR
  | [], _, K, fr, h => K.n fr h
  | c :: l, i, K, fr, h => match g i with
    | some x => (match x fr h with | some (fr', h') => seqK τ call L ro g l (Nat.succ i) K fr' h' | none => none)
    | none => codeK τ call L ro c { n := fun fr h => seqK τ call L ro g l (Nat.succ i) K fr h, x := K.x, r := K.r, p := K.p } fr h

/-- What the evaluator is given besides the program: functions that are summed up; functions whose ways are joined where they end (the element's type of the slice that they hand back); deferred functions. -/
structure Sums where
  ov : FuncId → Option (CallF → List Value → Hp → Res)
  nd : FuncId → Option TypeId
  dv : FuncId → Option (List Value → Hp → Option Hp)
  hk : FuncId → Option (Nat → Option HookF)


/-- The ways' ends are one: the slice that all hand back. -/
noncomputable def joined (h : Hp) (e : TypeId) : RR → Res
  | some (.flat n l :: rest) => bif rest.all (fun x => match x with | .flat n' l' => Nat.beq n' n && sameCells l l' | _ => false) then
      bif Nat.beq n 0 then none else some (.slice (some ⟨h.nx, 0, none⟩) n n, rowA h e l) else none
  | _ => none

/-- A function's code. -/
noncomputable def bodyK (τ : Tab) (S : Sums) (call : CallF) (L : Nat) (f : FuncId) (c : Code) (K : Kt) (fr : Fr) (h : Hp) : RR :=
  match S.hk f with
  | none => codeK τ call L none c K fr h
  | some g => seqK τ call L none g (flatC c) 0 K fr h

noncomputable def funBody (τ : Tab) (S : Sums) (call : CallF) (L : Nat) (f : FuncId) (args : List Value) (h : Hp) (k kp : Value → Hp → RR) : RR :=
  match τ.fn.get f with
  | none => none
  | some fn => match fn.body with
    | none => (match τ.ex.get f with
      | some e => (match extB τ e args h with | some (v, h') => k v h' | none => none)
      | none => none)
    | some c => match frame0 args fn.ntmps with
      | some fr0 => bodyK τ S call L f c (.mk (fun fr h => endK τ S.dv fn.results.toList fr k fr.ds h) (fun _ _ _ => none)
        (fun fr h => endK τ S.dv fn.results.toList fr k fr.ds h) (fun v fr h => match fr.ds with | [] => kp v h | _ => none)) fr0 h
      | none => none

/-- The arguments of yield, laid into the loop's temporaries. -/
noncomputable def laidAt (sz : Nat) : List Tmp → List Value → T Value → Option (T Value)
  | [], [], t => some t
  | p :: ps, v :: vs, t => bif Nat.blt p sz then laidAt sz ps vs (t.ins p v) else none
  | _, _, _ => none

noncomputable def setLoop (h : Hp) (l : Nat) (st : LoopState) (pend : Option Code) : Option Hp :=
  match h.t.get l with
  | some (.loop _ _ tm sz ps as body d) => some (h.put l (.loop st pend tm sz ps as body d))
  | _ => none

noncomputable def endRound (l : Nat) (pend : Option Code) (k : Value → Hp → RR) (fr : Fr) (h : Hp) : RR :=
  match fr.ds, setLoop h l (match pend with | none => .ready | some _ => .done) pend with
  | [], some h' => k (.bool pend.isNone) h'
  | _, _ => none

/-- One round of a range over a function: 'yield' is called. -/
noncomputable def roundK (τ : Tab) (call : CallF) (L : Nat) (l : Nat) (args : List Value) (h : Hp) (k : Value → Hp → RR) : RR :=
  match h.t.get l with
  | some (.loop _ _ tm sz ps as body _) => (match laidAt sz ps args tm with
    | some tm' => codeK τ call L (some l) as (.mk (fun fr h1 =>
        (match fr.ds, h1.t.get l with
          | [], some (.loop .ready none _ _ _ _ _ _) => (match setLoop h1 l .busy none with
            | some h2 => codeK τ call L (some l) body (.mk (endRound l none k) (fun id => endRound l (some (.exit id)) k) (endRound l (some .ret) k) (fun _ _ _ => none)) fr h2
            | none => none)
          | _, _ => none))
        (fun _ _ _ => none) (fun _ _ => none) (fun _ _ _ => none)) { tm := tm', sz := sz, ds := [] } h
    | none => none)
  | _ => none

noncomputable def funK (τ : Tab) (S : Sums) (L : Nat) : Nat → CallF
  | 0 => fun _ _ _ _ _ => none
  | n + 1 => fun fn args h k kp => match fn with
    | .func f => (match (match S.ov f with | some g => g (funK τ S L n) args h | none => none) with
      | some (v, h') => k v h'
      | none => match S.nd f with
        | some e => (match τ.inf.get e with
          | some i => (match joined h e (funBody τ S (funK τ S L n) L f args h.mark
              (fun v h' => bif h'.lo.noOld h.nx then (match flatB h' h.nx e i.size v with | some (n, l) => some [.flat n l] | none => none) else none) (fun _ _ => none)) with
            | some (v, h') => k v h'
            | none => none)
          | none => none)
        | none => funBody τ S (funK τ S L n) L f args h k kp)
    | .yield l => roundK τ (funK τ S L n) L l args h k
    | _ => none

end Go.Ev
end

section
/-
  What an operation leaves alone on the abstract machine.
-/
namespace Go.Ev
/-- Blocks that stood and have not been written are as they were. -/
def AF (h h' : Hp) : Prop := h.nx ≤ h'.nx ∧ h'.lo ≤ h.lo ∧ ∀ id, id < h.nx → ¬ h'.lo.has id → h'.t.get id = h.t.get id
theorem WS.le_refl (s : WS) : s ≤ s := fun _ h => h
theorem WS.le_trans {a b c : WS} (h : a ≤ b) (h' : b ≤ c) : a ≤ c := fun i hi => h i (h' i hi)
theorem AF.refl (h : Hp) : AF h h := ⟨Nat.le_refl _, WS.le_refl _, fun _ _ _ => rfl⟩
theorem AF.trans {h h1 h2 : Hp} (a : AF h h1) (b : AF h1 h2) : AF h h2 :=
  ⟨Nat.le_trans a.1 b.1, WS.le_trans b.2.1 a.2.1, fun id hi hl => (b.2.2 id (Nat.lt_of_lt_of_le hi a.1) hl).trans (a.2.2 id hi fun hh => hl (b.2.1 _ hh))⟩
theorem least_le (i j : Nat) : least i j ≤ i ∧ least i j ≤ j := by
  unfold least
  cases e : Nat.ble i j with
  | true => have := Nat.le_of_ble_eq_true e; simp; omega
  | false => have : ¬ i ≤ j := fun hh => by rw [Nat.ble_eq_true_of_le hh] at e; cases e
             simp; omega
theorem lower_one (b i : Nat) : lower (.one b) i = bif Nat.beq b i then .one b else bif Nat.ble b i then .pair b i else .pair i b := rfl
theorem lower_rest (lo i : Nat) : lower (.rest lo) i = bif Nat.ble lo i then .rest lo else .pair i lo := rfl
theorem lower_pair (b lo i : Nat) : lower (.pair b lo) i = bif Nat.beq b i || Nat.ble lo i then .pair b lo else bif Nat.ble b i then .pair b i else .pair i (least b lo) := rfl
theorem restIn_one (i j : Nat) : restIn (.one i) j = bif Nat.ble j i then .rest j else .pair i j := rfl
theorem lower_le (s : WS) (i : Nat) : lower s i ≤ s ∧ (lower s i).has i := by
  cases s with
  | no => exact ⟨fun _ h => h.elim, rfl⟩
  | one b =>
    rw [lower_one]
    cases e : Nat.beq b i with
    | true => have := Nat.eq_of_beq_eq_true e; subst this; exact ⟨fun _ h => h, rfl⟩
    | false =>
      cases e2 : Nat.ble b i with
      | true => exact ⟨fun _ (h : _ = b) => Or.inl h, Or.inr (Nat.le_refl i)⟩
      | false => exact ⟨fun x (h : x = b) => (show x = i ∨ b ≤ x from Or.inr (Nat.le_of_eq h.symm)), Or.inl rfl⟩
  | rest lo =>
    rw [lower_rest]
    cases e2 : Nat.ble lo i with
    | true => exact ⟨fun _ h => h, Nat.le_of_ble_eq_true e2⟩
    | false => exact ⟨fun _ (h : lo ≤ _) => Or.inr h, Or.inl rfl⟩
  | pair b lo =>
    rw [lower_pair]
    cases e : (Nat.beq b i || Nat.ble lo i) with
    | true =>
      refine ⟨fun _ h => h, ?_⟩
      rw [Bool.or_eq_true] at e
      rcases e with e | e
      · exact Or.inl (Nat.eq_of_beq_eq_true e).symm
      · exact Or.inr (Nat.le_of_ble_eq_true e)
    | false =>
      have e1 : Nat.ble lo i = false := by cases h : Nat.ble lo i with
        | true => rw [h, Bool.or_true] at e; cases e
        | false => rfl
      have hlt : ¬ lo ≤ i := fun hh => by rw [Nat.ble_eq_true_of_le hh] at e1; cases e1
      cases e2 : Nat.ble b i with
      | true => exact ⟨fun x (h : x = b ∨ lo ≤ x) => h.imp id fun h => by omega, Or.inr (Nat.le_refl i)⟩
      | false => exact ⟨fun x (h : x = b ∨ lo ≤ x) => Or.inr (by have := least_le b lo; rcases h with h | h <;> omega), Or.inl rfl⟩
theorem lowerR_le (s : WS) (i : Nat) : lowerR s i ≤ s ∧ (lowerR s i).has i := by
  cases s with
  | no => exact ⟨fun _ h => h.elim, rfl⟩
  | one b =>
    show (bif Nat.beq b i then WS.one b else .rest (least b i)) ≤ WS.one b ∧ (bif Nat.beq b i then WS.one b else .rest (least b i)).has i
    cases e : Nat.beq b i with
    | true => have := Nat.eq_of_beq_eq_true e; subst this; exact ⟨fun _ h => h, rfl⟩
    | false => exact ⟨fun x (h : x = b) => (by subst h; exact (least_le _ _).1), (least_le _ _).2⟩
  | rest lo => exact ⟨fun x (h : lo ≤ x) => Nat.le_trans (least_le lo i).1 h, (least_le lo i).2⟩
  | pair b lo =>
    refine ⟨fun x (h : x = b ∨ lo ≤ x) => ?_, (least_le _ _).2⟩
    show least (least b lo) i ≤ x
    have h1 := least_le (least b lo) i
    have h2 := least_le b lo
    rcases h with h | h <;> omega
theorem restIn_le (s : WS) (j : Nat) : restIn s j ≤ s ∧ ∀ x, j ≤ x → (restIn s j).has x := by
  cases s with
  | no => exact ⟨fun _ h => h.elim, fun _ h => h⟩
  | one i =>
    rw [restIn_one]
    cases e : Nat.ble j i with
    | true => exact ⟨fun x (h : x = i) => (by subst h; exact Nat.le_of_ble_eq_true e), fun _ h => h⟩
    | false => exact ⟨fun _ (h : _ = i) => Or.inl h, fun _ h => Or.inr h⟩
  | rest i => exact ⟨fun x (h : i ≤ x) => Nat.le_trans (least_le i j).1 h, fun x (h : j ≤ x) => Nat.le_trans (least_le i j).2 h⟩
  | pair b lo => exact ⟨fun x (h : x = b ∨ lo ≤ x) => h.imp id fun h => Nat.le_trans (least_le lo j).1 h, fun x (h : j ≤ x) => Or.inr (Nat.le_trans (least_le lo j).2 h)⟩
theorem joinW_le (s s' : WS) : joinW s s' ≤ s ∧ joinW s s' ≤ s' := by
  cases s' with
  | no => exact ⟨fun _ h => h, fun _ h => h.elim⟩
  | one i => exact ⟨(lower_le s i).1, fun x (h : x = i) => h ▸ (lower_le s i).2⟩
  | rest j => exact ⟨(restIn_le s j).1, (restIn_le s j).2⟩
  | pair b j => exact ⟨fun x h => (lower_le _ b).1 x ((restIn_le s j).1 x h), fun x (h : x = b ∨ j ≤ x) => h.elim (fun h => h ▸ (lower_le _ b).2) fun h => (lower_le _ b).1 x ((restIn_le s j).2 x h)⟩
theorem noOld_spec {s : WS} {nx : Nat} (h : s.noOld nx = true) {id : Nat} (hid : id < nx) : ¬ s.has id := by
  cases s with
  | no => exact fun h => h
  | one b => intro hh; have hh : id = b := hh; have := Nat.le_of_ble_eq_true h; omega
  | rest lo => intro hh; have hh : lo ≤ id := hh; have := Nat.le_of_ble_eq_true h; omega
  | pair b lo =>
    intro hh; have hh : id = b ∨ lo ≤ id := hh
    have h : (Nat.ble nx b && Nat.ble nx lo) = true := h
    rw [Bool.and_eq_true] at h
    have h1 := Nat.le_of_ble_eq_true h.1
    have h2 := Nat.le_of_ble_eq_true h.2
    omega
theorem AF.put (h : Hp) (i : Nat) (b : HB) : AF h (h.put i b) :=
  ⟨Nat.le_refl _, (lower_le _ _).1, fun id _ hl => T.get_ins_ne _ _ fun e => hl (e ▸ (lower_le h.lo i).2)⟩
theorem AF.new (h : Hp) (b : HB) : AF h (h.new b) :=
  ⟨Nat.le_succ _, WS.le_refl _, fun id hi _ => T.get_ins_ne _ _ (Nat.ne_of_lt hi)⟩
theorem AF.putNew (h : Hp) (i : Nat) (b b' : HB) : AF h ((h.put i b).new b') := (AF.put h i b).trans (AF.new _ _)


theorem res_af {x : Value × Hp} {v : Value} {h h' : Hp} (hu : some x = some (v, h')) (H : AF h x.2) : AF h h' := by
  cases hu; exact H
theorem hp_af {x : Hp} {h h' : Hp} (hu : some x = some h') (H : AF h x) : AF h h' := by
  cases hu; exact H
theorem bif_some {α : Type} {c : Bool} {x : Option α} {u : α} (h : (bif c then x else none) = some u) : x = some u := by
  cases c with | true => exact h | false => cases h
theorem bif_none {α : Type} {c : Bool} {x : Option α} {u : α} (h : (bif c then none else x) = some u) : x = some u := by
  cases c with | false => exact h | true => cases h
theorem bif_or {α : Type} {c : Bool} {x y : Option α} {u : α} (h : (bif c then x else y) = some u) : x = some u ∨ y = some u := by
  cases c with | false => exact .inr h | true => exact .inl h

theorem storeB_af {h h' : Hp} {id off : Nat} {vs : List Value} (hu : storeB h id off vs = some h') : AF h h' := by
  unfold storeB at hu
  split at hu
  · exact hp_af (bif_some hu) (AF.put _ _ _)
  · cases hu
theorem storeAtB_af {τ : Tab} {t : TypeId} {h h' : Hp} {id off : Nat} {v : Value} (hu : storeAtB τ t h id off v = some h') : AF h h' := by
  unfold storeAtB at hu
  split at hu
  · exact storeB_af (bif_some hu)
  · cases hu
theorem convB_af {τ : Tab} {s d : TypeId} {x v : Value} {h h' : Hp} (hu : convB τ s d x h = some (v, h')) : AF h h' := by
  unfold convB at hu
  split at hu
  case h_2 => cases hu
  split at hu
  · exact res_af hu (AF.refl _)
  · exact res_af hu (AF.refl _)
  · exact res_af hu (AF.refl _)
  · have hu := bif_some hu
    split at hu
    · exact res_af hu (AF.new _ _)
    · exact res_af hu (AF.new _ _)
    · cases hu
  · split at hu
    · exact res_af hu (AF.refl _)
    · exact res_af hu (AF.refl _)
    · cases hu
  · split at hu
    · split at hu
      · split at hu
        · exact res_af hu (AF.refl _)
        · cases hu
      · cases hu
    · split at hu
      · split at hu
        · exact res_af hu (AF.refl _)
        · cases hu
      · cases hu
    · cases hu
  · have hu := bif_some hu
    split at hu
    · exact res_af hu (AF.put _ _ _)
    · cases hu
  · split at hu
    · exact res_af (bif_some hu) (AF.refl _)
    · cases hu
  · split at hu
    · exact res_af (bif_some hu) (AF.refl _)
    · cases hu
  · cases hu
theorem makeSliceB_af {τ : Tab} {t : TypeId} {x y v : Value} {h h' : Hp} (hu : makeSliceB τ t x y h = some (v, h')) : AF h h' := by
  unfold makeSliceB at hu
  split at hu
  · split at hu
    · exact res_af (bif_some hu) (AF.new _ _)
    · cases hu
  · cases hu
theorem appendB_af {τ : Tab} {ts : List TypeId} {vs : List Value} {v : Value} {h h' : Hp} (hu : appendB τ ts vs h = some (v, h')) : AF h h' := by
  unfold appendB at hu
  split at hu
  case h_2 => cases hu
  replace hu := bif_none hu
  split at hu
  case h_2 => cases hu
  split at hu
  case h_2 => cases hu
  split at hu
  case h_2 => cases hu
  replace hu := bif_some hu
  split at hu
  · rcases bif_or hu with hu | hu
    · exact res_af hu (AF.refl _)
    · exact res_af (bif_some hu) (AF.new _ _)
  · rcases bif_or hu with hu | hu
    · split at hu
      · rename_i h1 hs
        rcases bif_or hu with hu | hu
        · exact res_af hu (AF.refl _)
        · exact res_af hu (storeB_af hs)
      · cases hu
    · replace hu := bif_some hu
      split at hu
      case h_2 => cases hu
      replace hu := bif_some hu
      split at hu
      case h_2 => cases hu
      split at hu
      · exact res_af hu (AF.new _ _)
      · exact res_af (bif_some hu) (AF.putNew _ _ _ _)
  · cases hu
theorem copyB_af {τ : Tab} {ts : List TypeId} {vs : List Value} {v : Value} {h h' : Hp} (hu : copyB τ ts vs h = some (v, h')) : AF h h' := by
  unfold copyB at hu
  split at hu
  case h_2 => cases hu
  split at hu
  case h_2 => cases hu
  split at hu
  case h_2 => cases hu
  split at hu
  case h_2 => cases hu
  split at hu
  · exact res_af hu (AF.refl _)
  · rcases bif_or hu with hu | hu
    · exact res_af hu (AF.refl _)
    · split at hu
      · rename_i h1 hs
        exact res_af hu (storeB_af hs)
      · cases hu
  · cases hu
theorem clearB_af {τ : Tab} {ts : List TypeId} {vs : List Value} {h h' : Hp} (hu : clearB τ ts vs h = some h') : AF h h' := by
  unfold clearB at hu
  split at hu
  case h_2 => cases hu
  split at hu
  · exact hp_af hu (AF.refl _)
  · exact hp_af hu (AF.refl _)
  · split at hu
    · exact storeB_af (bif_some hu)
    · cases hu
  · exact hp_af hu (AF.refl _)
  · split at hu
    · exact hp_af hu (AF.put _ _ _)
    · cases hu
  · cases hu
theorem deleteB_af {τ : Tab} {ts : List TypeId} {vs : List Value} {h h' : Hp} (hu : deleteB τ ts vs h = some h') : AF h h' := by
  unfold deleteB at hu
  split at hu
  case h_2 => cases hu
  split at hu
  · exact hp_af (bif_some hu) (AF.refl _)
  · replace hu := bif_some hu
    split at hu
    case h_2 => cases hu
    split at hu
    · exact hp_af hu (AF.put _ _ _)
    · exact hp_af hu (AF.put _ _ _)
    · cases hu
  · cases hu
theorem unsafeStringB_af {τ : Tab} {ts : List TypeId} {vs : List Value} {v : Value} {h h' : Hp} (hu : unsafeStringB τ ts vs h = some (v, h')) : AF h h' := by
  unfold unsafeStringB at hu
  split at hu
  · exact res_af hu (AF.refl _)
  · rcases bif_or hu with hu | hu
    · exact res_af hu (AF.refl _)
    · replace hu := bif_some hu
      split at hu
      case h_2 => cases hu
      replace hu := bif_some hu
      split at hu
      case h_2 => cases hu
      split at hu
      · exact res_af (bif_some hu) (AF.put _ _ _)
      · cases hu
  · cases hu
theorem mapUpdateB_af {τ : Tab} {t : TypeId} {m k x : Value} {h h' : Hp} (hu : mapUpdateB τ t m k x h = some h') : AF h h' := by
  unfold mapUpdateB at hu
  split at hu
  case h_2 => cases hu
  replace hu := bif_some hu
  split at hu
  case h_2 => cases hu
  split at hu
  · exact hp_af (bif_some hu) (AF.put _ _ _)
  · exact hp_af hu (AF.put _ _ _)
  · cases hu
theorem mapEntryB_af {τ : Tab} {t : TypeId} {m k v : Value} {h h' : Hp} (hu : mapEntryB τ t m k h = some (v, h')) : AF h h' := by
  unfold mapEntryB at hu
  split at hu
  case h_2 => cases hu
  replace hu := bif_some hu
  split at hu
  case h_2 => cases hu
  split at hu
  · exact res_af (bif_some hu) (AF.put _ _ _)
  · split at hu
    · exact res_af hu (AF.put _ _ _)
    · cases hu
  · cases hu
theorem entryStoreB_af {m k x : Value} {h h' : Hp} (hu : entryStoreB m k x h = some h') : AF h h' := by
  unfold entryStoreB at hu
  split at hu
  case h_2 => cases hu
  split at hu
  case h_2 => cases hu
  split at hu
  · exact hp_af hu (AF.put _ _ _)
  · cases hu
theorem rangeB_af {τ : Tab} {t : TypeId} {x v : Value} {h h' : Hp} (hu : rangeB τ t x h = some (v, h')) : AF h h' := by
  unfold rangeB at hu
  split at hu
  · cases hu
  split at hu
  · exact res_af hu (AF.new _ _)
  · exact res_af hu (AF.new _ _)
  · split at hu
    · exact res_af hu (AF.new _ _)
    · cases hu
  · cases hu
theorem buildSliceB_af {τ : Tab} {t : TypeId} {n : Nat} {ps : List (Nat × Value)} {v : Value} {h h' : Hp} (hu : buildSliceB τ t n ps h = some (v, h')) : AF h h' := by
  unfold buildSliceB at hu
  split at hu
  case h_2 => cases hu
  split at hu
  case h_2 => cases hu
  replace hu := bif_some hu
  split at hu
  · exact res_af hu (AF.new _ _)
  · cases hu
theorem boxB_af {τ : Tab} {t : TypeId} {x v : Value} {h h' : Hp} (hu : boxB τ t x h = some (v, h')) : AF h h' := res_af hu (AF.new _ _)
theorem extB_af {τ : Tab} {e : ExtK} {vs : List Value} {v : Value} {h h' : Hp} (hu : extB τ e vs h = some (v, h')) : AF h h' := by
  unfold extB at hu
  split at hu
  · exact res_af hu (AF.refl _)
  · split at hu
    · exact res_af hu (AF.refl _)
    · exact res_af hu (AF.refl _)
  · exact res_af hu (AF.refl _)
  · exact res_af (bif_some hu) (AF.new _ _)
  · cases hu
theorem nextB_af {it : Value} {s : Bool} {h : Hp} {l : List (Value × Hp)} (hu : nextB it s h = some l) : ∀ v h', (v, h') ∈ l → AF h h' := by
  intro v h' hm
  unfold nextB at hu
  split at hu
  case h_2 => cases hu
  split at hu
  · rcases bif_or hu with hu | hu
    · cases hu; cases List.mem_singleton.1 hm; exact AF.put _ _ _
    · cases hu; cases List.mem_singleton.1 hm; exact AF.refl _
  · cases hu; cases List.mem_singleton.1 hm; exact AF.refl _
  · split at hu
    case h_2 => cases hu
    replace hu := bif_none hu
    replace hu := bif_some hu
    split at hu
    · cases hu; cases List.mem_singleton.1 hm; exact AF.refl _
    · cases hu
      obtain ⟨e, _, he⟩ := List.mem_map.1 hm
      cases he; exact AF.put _ _ _
  · cases hu
theorem ok1_af {o : Option Value} {v : Value} {h h' : Hp} (hu : ok1 h o = some (v, h')) : AF h h' := by
  cases o with
  | none => cases hu
  | some x => exact res_af hu (AF.refl _)
theorem okU_af {o : Option Hp} {v : Value} {h h' : Hp} (hu : okU o = some (v, h')) (H : ∀ h', o = some h' → AF h h') : AF h h' := by
  cases o with
  | none => cases hu
  | some x => exact res_af hu (H _ rfl)
theorem optV_af {o : Option Value} {v : Value} {h h' : Hp} (hu : (match o with | some v => some (v, h) | none => none) = some (v, h')) : AF h h' := by
  cases o with
  | none => cases hu
  | some x => exact res_af hu (AF.refl _)
theorem optH_af {o : Option Hp} {v u : Value} {h h' : Hp} (hu : (match o with | some h' => some (u, h') | none => none) = some (v, h')) (H : ∀ h', o = some h' → AF h h') : AF h h' := by
  cases o with
  | none => cases hu
  | some x => exact res_af hu (H _ rfl)
theorem appendZB_af {τ : Tab} {ts : List TypeId} {vs : List Value} {v : Value} {h h' : Hp} (hu : appendZB τ ts vs h = some (v, h')) : AF h h' := by
  unfold appendZB at hu
  split at hu
  case h_2 => cases hu
  split at hu
  case h_2 => cases hu
  split at hu
  case h_2 => cases hu
  replace hu := bif_some hu
  exact res_af hu (AF.new _ _)
theorem builtinB_af {τ : Tab} {b : Builtin} {ts : List TypeId} {vs : List Value} {v : Value} {h h' : Hp} (hu : builtinB τ b ts vs h = some (v, h')) : AF h h' := by
  cases b <;> simp only [builtinB] at hu <;> first
    | (cases hu; done)
    | (split at hu
       · rename_i hr; cases hu; exact appendB_af hr
       · exact appendZB_af hu)
    | exact unsafeStringB_af hu
    | exact copyB_af hu
    | exact optV_af hu
    | exact optH_af hu fun _ => clearB_af
    | exact optH_af hu fun _ => deleteB_af
    | (split at hu
       · exact optV_af hu
       · cases hu)
theorem leaf_af {τ : Tab} {fr : Fr} {o : Op} {v : Value} {h h' : Hp} (hu : leafB τ fr h o = some (v, h')) : AF h h' := by
  unfold leafB at hu
  split at hu
  · exact ok1_af hu
  · exact ok1_af hu
  · split at hu
    · exact ok1_af hu
    · cases hu
  · split at hu
    · exact boxB_af hu
    · cases hu
  · split at hu
    · exact boxB_af hu
    · cases hu
  · split at hu
    · exact ok1_af hu
    · cases hu
  · split at hu
    · exact buildSliceB_af hu
    · cases hu
  · split at hu
    · exact ok1_af hu
    · cases hu
  · split at hu
    · exact okU_af hu fun _ => storeAtB_af
    · cases hu
  · split at hu
    · exact res_af hu (AF.refl _)
    · exact res_af hu (AF.refl _)
    · exact res_af hu (AF.refl _)
    · exact res_af hu (AF.refl _)
    · cases hu
  · split at hu
    · exact ok1_af hu
    · cases hu
  · split at hu
    · exact ok1_af hu
    · cases hu
  · split at hu
    · exact convB_af hu
    · cases hu
  · split at hu
    · cases hu
    · exact res_af hu (AF.refl _)
    · cases hu
  · split at hu
    · split at hu
      · cases hu
      · exact res_af hu (AF.refl _)
    · cases hu
  · split at hu
    · exact res_af hu (AF.new _ _)
    · split at hu
      · exact res_af hu (AF.new _ _)
      · cases hu
    · cases hu
  · split at hu
    · exact makeSliceB_af hu
    · cases hu
  · split at hu
    · exact ok1_af hu
    · cases hu
  · split at hu
    · exact ok1_af hu
    · cases hu
  · split at hu
    · exact ok1_af hu
    · cases hu
  · split at hu
    · exact ok1_af hu
    · cases hu
  · split at hu
    · exact ok1_af hu
    · cases hu
  · split at hu
    · exact ok1_af hu
    · cases hu
  · split at hu
    · exact okU_af hu fun _ => mapUpdateB_af
    · cases hu
  · split at hu
    · exact okU_af hu fun _ => mapUpdateB_af
    · cases hu
  · split at hu
    · exact mapEntryB_af hu
    · cases hu
  · split at hu
    · exact okU_af hu fun _ => entryStoreB_af
    · cases hu
  · split at hu
    · exact rangeB_af hu
    · cases hu
  · split at hu
    · exact ok1_af hu
    · cases hu
  · split at hu
    · exact ok1_af hu
    · cases hu
  · split at hu
    · exact ok1_af hu
    · cases hu
  · split at hu
    · exact ok1_af hu
    · cases hu
  · cases hu
end Go.Ev
end
