/-
  Regions whose order is drawn: what stands before what; the run in the text's order; what quiet operations do.
-/
import Derived.Test.YtehhkecoedbjoaaGreatDoorEv8
set_option linter.unusedVariables false
set_option linter.unusedSimpArgs false
set_option linter.unusedSectionVars false
namespace Go.Ev

/-! ### what stands before what -/
def ClosedS (ops : Array Oper) (S : Nat → Prop) : Prop := ∀ j o e, ops[j]? = some o → e ∈ o.after → Region.binds .any e = true → S j → S e.on

theorem edges_spec {A : Array Nat} {S : Nat → Prop} {k : Nat} {o : Oper} (hS : ∀ e ∈ o.after, Region.binds .any e = true → S k → S e.on) (hA : ∀ j i, (A.getD j 0).testBit i = true → S j → S i) :
    ∀ (es : List Edge) (s : Nat), (∀ e ∈ es, e ∈ o.after) → (∀ i, s.testBit i = true → S k → S i) →
      ∀ i, (es.foldl (fun s e => if Region.binds .any e then s ||| 2 ^ e.on ||| A.getD e.on 0 else s) s).testBit i = true → S k → S i
  | [], s, _, hs, i, h, hk => hs i h hk
  | e :: es, s, hm, hs, i, h, hk => by
    rw [List.foldl_cons] at h
    refine edges_spec hS hA es _ (fun e he => hm e (List.mem_cons_of_mem _ he)) (fun i hi hk => ?_) i h hk
    by_cases hb : Region.binds .any e = true
    · rw [if_pos hb] at hi
      have he := hS e (hm e List.mem_cons_self) hb hk
      rw [Nat.testBit_or, Nat.testBit_or] at hi
      simp only [Bool.or_eq_true] at hi
      rcases hi with (hi | hi) | hi
      · exact hs i hi hk
      · rw [Nat.testBit_two_pow] at hi
        have : e.on = i := by simpa using hi
        rw [← this]; exact he
      · exact hA _ _ hi he
    · rw [if_neg hb] at hi; exact hs i hi hk

theorem before_go (ops : Array Oper) {S : Nat → Prop} (hc : ClosedS ops S) : ∀ (l : List Oper) (A : Array Nat), ops.toList.drop A.size = l → (∀ j i, (A.getD j 0).testBit i = true → S j → S i) →
    ∀ j i, ((l.foldl (fun acc o => acc.push (o.after.foldl (fun s e => if Region.binds .any e then s ||| 2 ^ e.on ||| acc.getD e.on 0 else s) 0)) A).getD j 0).testBit i = true → S j → S i
  | [], A, _, hA, j, i, h, hj => hA j i h hj
  | o :: l, A, hd, hA, j, i, h, hj => by
    rw [List.foldl_cons] at h
    have hoi : ops[A.size]? = some o := by
      have : (ops.toList.drop A.size)[0]? = some o := by rw [hd]; rfl
      simpa using this
    refine before_go ops hc l _ ?_ (fun j i h hj => ?_) j i h hj
    · rw [Array.size_push]
      have := congrArg List.tail hd
      simpa using this
    · rcases Nat.lt_trichotomy j A.size with hlt | heq | hgt
      · rw [Array.getD_eq_getD_getElem?, Array.getElem?_push_lt hlt] at h
        refine hA j i ?_ hj
        rw [Array.getD_eq_getD_getElem?, Array.getElem?_eq_getElem hlt]; exact h
      · subst heq
        rw [Array.getD_eq_getD_getElem?, Array.getElem?_push_size] at h
        simp only [Option.getD_some] at h
        rw [← Array.foldl_toList] at h
        exact edges_spec (fun e he hb => hc _ o e hoi he hb) hA o.after.toList 0 (fun e he => by simpa using he) (fun i hi => by simp at hi) i h hj
      · rw [Array.getD_eq_getD_getElem?, Array.getElem?_eq_none (by simp; omega)] at h
        simp at h

/-- What an operation's number holds a bit of stands before it. -/
theorem before_spec {ops : Array Oper} {S : Nat → Prop} (hc : ClosedS ops S) {i j : Nat} (h : ((Region.before ops).toList.getD j 0).testBit i = true) (hj : S j) : S i := by
  refine before_go ops hc ops.toList #[] rfl (fun j i h => by simp at h) j i ?_ hj
  have : (Region.before ops).toList.getD j 0 = (Region.before ops).getD j 0 := by
    rw [Array.getD_eq_getD_getElem?, List.getD_eq_getElem?_getD, Array.getElem?_toList]
  rw [this] at h
  unfold Region.before at h
  rw [← Array.foldl_toList] at h
  exact h

/-! ### the run in the text's order -/
def StepAt (τ : Tab) (call : CallF) (ops : Array Oper) (F : Nat → Fr) (H : Nat → Hp) (E : Nat → Eff) (j : Nat) (o : Oper) : Prop :=
  soleB ops.toList o.guard = true ∧
  ((wantB (F j) ops.toList o.guard = some true ∧ ∃ h', opK τ call (F j) (H j).mark o.op (fun v h' => match (F j).set o.dst v with | some fr' => some [.frm fr' h'] | none => none) (fun _ _ => none) = some [.frm (F (j + 1)) h'] ∧
      H (j + 1) = (H j).back h' ∧ E j = effOf τ (F j) o.op (H j) h'.lo ∧ (E j).ok = true) ∨
   (wantB (F j) ops.toList o.guard = some false ∧ (F j).set o.dst (.tuple #[]) = some (F (j + 1)) ∧ H (j + 1) = H j ∧ E j = .non))

theorem clash_non0 (e : Eff) {nx nx' : Nat} (h : Nat.blt nx nx' = false) : clash e .non nx nx' = false := by
  have hn : ¬ nx < nx' := fun hh => by
    have : Nat.blt nx nx' = true := by rw [Nat.blt_eq]; exact hh
    rw [this] at h; cases h
  cases e with
  | wr s me =>
    cases s with
    | no => rfl
    | one b =>
      show (Nat.ble nx b && Nat.blt b nx') = false
      refine Bool.eq_false_iff.2 fun hh => ?_
      simp only [Bool.and_eq_true, Nat.blt_eq] at hh
      have := Nat.le_of_ble_eq_true hh.1; omega
    | rest lo => show (Nat.blt nx nx' && Nat.blt lo nx') = false; rw [h]; rfl
    | pair b lo =>
      show ((Nat.ble nx b && Nat.blt b nx') || (Nat.blt nx nx' && Nat.blt lo nx')) = false
      rw [h, Bool.false_and, Bool.or_false]
      refine Bool.eq_false_iff.2 fun hh => ?_
      simp only [Bool.and_eq_true, Nat.blt_eq] at hh
      have := Nat.le_of_ble_eq_true hh.1; omega
  | _ => rfl
theorem force_eq {β : Type} (e : Eff) (k : Eff → β) : e.force k = k e := by cases e <;> rfl
theorem Hp.back_nx (h h' : Hp) : (h.back h').nx = h'.nx := rfl
theorem Hp.back_t (h h' : Hp) : (h.back h').t = h'.t := rfl
theorem Hp.back_lo (h h' : Hp) : (h.back h').lo = joinW h.lo h'.lo := rfl

theorem logIn_mem {i : Nat} {e : Eff} {nx nx' : Nat} {log : Log} : (∀ x ∈ log, x ∈ logIn i e nx nx' log) ∧ ((i, e, nx, nx') ∈ logIn i e nx nx' log ∨ (e = .non ∧ Nat.blt nx nx' = false)) := by
  unfold logIn
  split
  · cases hb : Nat.blt nx nx' with
    | false => exact ⟨fun x hx => hx, .inr ⟨rfl, rfl⟩⟩
    | true => exact ⟨fun x hx => List.mem_cons_of_mem _ hx, .inl List.mem_cons_self⟩
  · exact ⟨fun x hx => List.mem_cons_of_mem _ hx, .inl List.mem_cons_self⟩

theorem goes_spec {b : List Nat} {i : Nat} {e : Eff} {log : Log} (h : goesWith b i e log = true) : e.ok = true ∧ ∀ {k : Nat} {e' : Eff} {nx nx' : Nat}, (k, e', nx, nx') ∈ log → clash e e' nx nx' = true → compB b i k = true := by
  unfold goesWith at h
  rw [Bool.and_eq_true] at h
  refine ⟨h.1, fun hm hc => ?_⟩
  have := List.all_eq_true.1 h.2 _ hm
  simp only [hc, Bool.not_true, Bool.false_or] at this
  exact this

theorem drawK_run {τ : Tab} {call : CallF} {ops : Array Oper} {b : List Nat} {k : Fr → Hp → RR} : ∀ (l : List Oper) (i : Nat), ops.toList.drop i = l → ∀ (log : Log) (fr : Fr) (h : Hp) (outs : List Out),
    drawK τ call ops.toList b k l i log fr h = some outs → ∃ (F : Nat → Fr) (H : Nat → Hp) (E : Nat → Eff), F i = fr ∧ H i = h ∧ (∀ j o, i ≤ j → ops[j]? = some o → StepAt τ call ops F H E j o) ∧
      (∀ j k' e nx nx', i ≤ j → j < ops.size → (k', e, nx, nx') ∈ log → clash (E j) e nx nx' = true → compB b j k' = true) ∧
      (∀ x y, i ≤ x → x < y → y < ops.size → clash (E y) (E x) (H x).nx (H (x + 1)).nx = true → compB b y x = true) ∧ k (F ops.size) (H ops.size) = some outs := by
  intro l
  induction l with
  | nil =>
    intro i hi log fr h outs hu
    have hlen : ops.size ≤ i := by
      have := congrArg List.length hi
      simp at this; omega
    refine ⟨fun _ => fr, fun _ => h, fun _ => .non, rfl, rfl, fun j o hj ho => ?_, fun j k' e nx nx' hj hlt => by omega, fun x y hx hxy hy => by omega, hu⟩
    have : j < ops.size := (Array.getElem?_eq_some_iff.1 ho).1
    omega
  | cons o l ih =>
    intro i hi log fr h outs hu
    have hoi : ops[i]? = some o := by
      have : (ops.toList.drop i)[0]? = some o := by rw [hi]; rfl
      simpa using this
    have hi' : ops.toList.drop (i + 1) = l := by
      have := congrArg List.tail hi
      simpa using this
    have hlt : i < ops.size := (Array.getElem?_eq_some_iff.1 hoi).1
    simp only [drawK] at hu
    replace hu := bifO hu; obtain ⟨hsole, hu⟩ := hu
    split at hu
    · rename_i hw
      split at hu
      case h_2 => cases hu
      rename_i fr' h' hop
      rw [force_eq] at hu
      replace hu := bifO hu; obtain ⟨hg, hu⟩ := hu
      obtain ⟨F, H, E, f0, h0, st, cl, sp, hk⟩ := ih (i + 1) hi' _ _ _ _ hu
      obtain ⟨lg1, lg2⟩ := @logIn_mem i (effOf τ fr o.op h h'.lo) h.nx h'.nx log
      have hnx : (H (i + 1)).nx = h'.nx := by rw [h0]; rfl
      refine ⟨fun k => if k = i then fr else F k, fun k => if k = i then h else H k, fun k => if k = i then effOf τ fr o.op h h'.lo else E k, by simp, by simp, fun j oj hj hoj => ?_, fun j k' e nx nx' hj hjs hm hc => ?_, fun x y hx hxy hy hc => ?_, ?_⟩
      · by_cases hji : j = i
        · subst hji
          rw [hoi] at hoj; cases hoj
          refine ⟨hsole, .inl ?_⟩
          simp only [if_pos, if_neg (Nat.succ_ne_self j)]
          refine ⟨hw, h', ?_, h0, rfl, (goes_spec hg).1⟩
          rw [f0]; exact hop
        · have := st j oj (by omega) hoj
          unfold StepAt at *
          simp only [if_neg hji, if_neg (show j + 1 ≠ i by omega)]
          exact this
      · simp only [] at hc
        by_cases hji : j = i
        · subst hji; rw [if_pos rfl] at hc; exact (goes_spec hg).2 hm hc
        · rw [if_neg hji] at hc; exact cl j k' e nx nx' (by omega) hjs (lg1 _ hm) hc
      · simp only [] at hc
        rw [if_neg (show y ≠ i by omega), if_neg (show x + 1 ≠ i by omega)] at hc
        by_cases hxi : x = i
        · subst hxi
          rw [if_pos rfl, if_pos rfl, hnx] at hc
          rcases lg2 with hm | ⟨h1, h2⟩
          · exact cl y x _ _ _ (by omega) hy hm hc
          · rw [h1, clash_non0 _ h2] at hc; cases hc
        · rw [if_neg hxi, if_neg hxi] at hc; exact sp x y (by omega) hxy hy hc
      · simp only [if_neg (show ops.size ≠ i by omega)]; exact hk
    · rename_i hw
      split at hu
      case h_2 => cases hu
      rename_i fr' hset
      obtain ⟨F, H, E, f0, h0, st, cl, sp, hk⟩ := ih (i + 1) hi' _ _ _ _ hu
      refine ⟨fun k => if k = i then fr else F k, fun k => if k = i then h else H k, fun k => if k = i then .non else E k, by simp, by simp, fun j oj hj hoj => ?_, fun j k' e nx nx' hj hjs hm hc => ?_, fun x y hx hxy hy hc => ?_, ?_⟩
      · by_cases hji : j = i
        · subst hji
          rw [hoi] at hoj; cases hoj
          refine ⟨hsole, .inr ?_⟩
          simp only [if_pos, if_neg (Nat.succ_ne_self j)]
          exact ⟨hw, by rw [f0]; exact hset, h0, trivial⟩
        · have := st j oj (by omega) hoj
          unfold StepAt at *
          simp only [if_neg hji, if_neg (show j + 1 ≠ i by omega)]
          exact this
      · simp only [] at hc
        by_cases hji : j = i
        · subst hji; rw [if_pos rfl] at hc; cases e <;> cases hc
        · rw [if_neg hji] at hc; exact cl j k' e nx nx' (by omega) hjs hm hc
      · simp only [] at hc
        rw [if_neg (show y ≠ i by omega), if_neg (show x + 1 ≠ i by omega)] at hc
        by_cases hxi : x = i
        · subst hxi
          rw [if_pos rfl, if_pos rfl, h0] at hc
          rw [clash_non0 _ (by simp [Nat.blt_eq, Bool.eq_false_iff])] at hc; cases hc
        · rw [if_neg hxi, if_neg hxi] at hc; exact sp x y (by omega) hxy hy hc
      · simp only [if_neg (show ops.size ≠ i by omega)]; exact hk
    · cases hu

/-! ### operations that look at no memory, or at one block -/
noncomputable def newO (h : Hp) : Option HB → Hp
  | none => h
  | some b => h.new b
/-- What is done hangs on the next block's number alone. -/
def Adds (f : Hp → Res) (nx : Nat) : Prop := (∀ h, h.nx = nx → f h = none) ∨ ∃ v nb, ∀ h, h.nx = nx → f h = some (v, newO h nb)
theorem Adds.ok1 {f : Hp → Res} {nx : Nat} (X : Option Value) (h : ∀ h, f h = ok1 h X) : Adds f nx := by
  cases X with
  | none => exact .inl fun h' _ => h h'
  | some v => exact .inr ⟨v, none, fun h' _ => h h'⟩
theorem Adds.no {f : Hp → Res} {nx : Nat} (h : ∀ h, f h = none) : Adds f nx := .inl fun h' _ => h h'
theorem Adds.new {f : Hp → Res} {nx : Nat} (v : Nat → Value) (b : HB) (h : ∀ h, f h = some (v h.nx, h.new b)) : Adds f nx := .inr ⟨v nx, some b, fun h' e => by rw [h h', e]; rfl⟩
section
variable {τ : Tab} {call : CallF} {fr : Fr}

theorem leaf_quiet {o : Op} (hq : quietOp o = true) (nx : Nat) : Adds (fun h => leafB τ fr h o) nx := by
  cases o <;> simp only [quietOp] at hq <;> first
    | (cases hq; done)
    | skip
  case move x => exact .ok1 (ev τ fr x) fun _ => rfl
  case assign x => exact .ok1 (ev τ fr x) fun _ => rfl
  case pick c a b =>
    simp only [leafB]
    split
    · exact .ok1 _ fun _ => rfl
    · exact .no fun _ => rfl
  case nilCheck x =>
    simp only [leafB]
    split
    · exact .ok1 (some _) fun _ => rfl
    · exact .ok1 (some _) fun _ => rfl
    · exact .ok1 (some _) fun _ => rfl
    · exact .ok1 (some _) fun _ => rfl
    · exact .no fun _ => rfl
  case binOp op t x y ty =>
    simp only [leafB]
    split
    · exact .ok1 _ fun _ => rfl
    · exact .no fun _ => rfl
  case unOp op t x =>
    simp only [leafB]
    split
    · exact .ok1 _ fun _ => rfl
    · exact .no fun _ => rfl
  case makeInterface t x =>
    simp only [leafB]
    split
    · exact .no fun _ => rfl
    · exact .ok1 (some _) fun _ => rfl
    · exact .no fun _ => rfl
  case makeFunc fn a b =>
    simp only [leafB]
    split
    · split
      · exact .no fun _ => rfl
      · exact .ok1 (some _) fun _ => rfl
    · exact .no fun _ => rfl
  case slice t x lo hi mx =>
    simp only [leafB]
    split
    · exact .ok1 _ fun _ => rfl
    · exact .no fun _ => rfl
  case sliceToArrayPointer t x =>
    simp only [leafB]
    split
    · exact .ok1 _ fun _ => rfl
    · exact .no fun _ => rfl
  case fieldAddr s x f =>
    simp only [leafB]
    split
    · exact .ok1 _ fun _ => rfl
    · exact .no fun _ => rfl
  case field t x f =>
    simp only [leafB]
    split
    · exact .ok1 _ fun _ => rfl
    · exact .no fun _ => rfl
  case indexAddr t x i =>
    simp only [leafB]
    split
    · exact .ok1 _ fun _ => rfl
    · exact .no fun _ => rfl
  case index t x i =>
    simp only [leafB]
    split
    · exact .ok1 _ fun _ => rfl
    · exact .no fun _ => rfl
  case extract t i =>
    simp only [leafB]
    split
    · exact .ok1 _ fun _ => rfl
    · exact .no fun _ => rfl

theorem conv_quiet {s d : TypeId} {v : Value} (hv : (∃ k n, v = .int k n) ∨ ∃ s, v = .string s) (nx : Nat) : Adds (fun h => convB τ s d v h) nx := by
  simp only [convB]
  rcases hv with ⟨k, n, rfl⟩ | ⟨str, rfl⟩
  · split
    case h_2 => exact .no fun _ => rfl
    rename_i sd dd hs hd
    cases dd <;> first
      | exact .ok1 (some _) fun _ => rfl
      | (cases sd <;> exact .no fun _ => rfl)
  · split
    case h_2 => exact .no fun _ => rfl
    rename_i sd dd hs hd
    cases dd <;> first
      | exact .ok1 (some _) fun _ => rfl
      | (cases sd <;> exact .no fun _ => rfl)
      | skip
    rename_i e
    have key : Adds (fun h => (bif unitT τ e then (match τ.ds.get e with
        | some (.int .u8) => some (.slice (some ⟨h.nx, 0, none⟩) str.size str.size, h.new (.cells (T.laid (str.data.toList.map fun b => .int .u8 b.toNat) 0 .nil) str.size e 1 0 false))
        | some (.int .i32) =>
          let l := runesL str.size str.data.toList
          some (.slice (some ⟨h.nx, 0, none⟩) l.length l.length, h.new (.cells (T.laid l 0 .nil) l.length e 0 0 false))
        | _ => none) else none : Res)) nx := by
      cases unitT τ e with
      | false => exact .no fun _ => rfl
      | true =>
        simp only [cond_true]
        split
        · exact .new (fun n => .slice (some ⟨n, 0, none⟩) _ _) _ fun _ => rfl
        · exact .new (fun n => .slice (some ⟨n, 0, none⟩) _ _) _ fun _ => rfl
        · exact .no fun _ => rfl
    cases sd <;> exact key

theorem genE_spec (h : Hp) (s : WS) : (genE h s = .rdAll ∧ s.noOld h.nx = true) ∨ (genE h s = .wr s none ∧ ∀ b, s.top = some b → ∃ hb, h.t.get b = some hb ∧ hb.live = true) ∨ genE h s = .bad := by
  unfold genE
  cases hn : s.noOld h.nx with
  | true => exact .inl ⟨rfl, rfl⟩
  | false =>
    simp only [cond_false]
    cases s with
    | no => exact .inr (.inl ⟨rfl, fun b hb => by cases hb⟩)
    | rest lo => exact .inr (.inl ⟨rfl, fun b hb => by cases hb⟩)
    | pair c lo =>
      simp only []
      cases hb : h.t.get c with
      | none => exact .inr (.inr rfl)
      | some x =>
        simp only []
        cases hl : x.live with
        | false => exact .inr (.inr rfl)
        | true => exact .inr (.inl ⟨rfl, fun b' hb' => by cases hb'; exact ⟨x, hb, hl⟩⟩)
    | one b =>
      simp only []
      cases hb : h.t.get b with
      | none => exact .inr (.inr rfl)
      | some x =>
        simp only []
        cases hl : x.live with
        | false => exact .inr (.inr rfl)
        | true => exact .inr (.inl ⟨rfl, fun b' hb' => by cases hb'; exact ⟨x, hb, hl⟩⟩)
theorem meE_spec (t r : Nat) (e : Eff) : meE t r e = e ∨ ∃ b me, e = .wr (.one b) me ∧ (meE t r e = .wr (.one b) none ∨ (b = r ∧ meE t r e = .wr (.one b) (some t))) := by
  unfold meE
  split
  · rename_i b me
    refine .inr ⟨b, me, rfl, ?_⟩
    cases hb : Nat.beq b r with
    | true => exact .inr ⟨Nat.eq_of_beq_eq_true hb, rfl⟩
    | false => exact .inl rfl
  · exact .inl rfl
theorem meE_shape {t r : Nat} {h : Hp} {s : WS} : (∀ x, meE t r (genE h s) ≠ .rd x) ∧ (∀ x y, meE t r (genE h s) ≠ .lk x y) ∧ meE t r (genE h s) ≠ .non := by
  rcases meE_spec t r (genE h s) with hm | ⟨b, me, _, hm | ⟨_, hm⟩⟩ <;> rw [hm]
  · rcases genE_spec h s with ⟨hg, _⟩ | ⟨hg, _⟩ | hg <;> rw [hg] <;> simp
  · simp
  · simp
theorem genE_shape {h : Hp} {s : WS} : (∀ x, genE h s ≠ .rd x) ∧ (∀ x y, genE h s ≠ .lk x y) ∧ genE h s ≠ .non := by
  rcases genE_spec h s with ⟨hg, _⟩ | ⟨hg, _⟩ | hg <;> rw [hg] <;> simp

theorem effOf_gen {o : Op} {h : Hp} {lo : WS} : effOf τ fr o h lo = .non ∨ (∃ a, effOf τ fr o h lo = .rd a) ∨ (∃ a t, effOf τ fr o h lo = .lk a t) ∨ effOf τ fr o h lo = genE h lo ∨
    ∃ t m k r, o = .mapEntry t m k ∧ ev τ fr m = some (.map (some r)) ∧ effOf τ fr o h lo = meE t r (genE h lo) := by
  unfold effOf
  cases quietOp o with
  | true => exact .inl rfl
  | false =>
    simp only [cond_false]
    split
    · exact .inl rfl
    · exact .inl rfl
    · exact .inl rfl
    · exact .inl rfl
    · exact .inl rfl
    · exact .inl rfl
    · split
      · exact .inr (.inl ⟨_, rfl⟩)
      · exact .inr (.inr (.inr (.inl rfl)))
    · rename_i ok
      split
      · cases ok with
        | true => exact .inr (.inl ⟨_, rfl⟩)
        | false => exact .inr (.inr (.inl ⟨_, _, rfl⟩))
      · exact .inr (.inr (.inr (.inl rfl)))
    · split
      · rename_i hm; exact .inr (.inr (.inr (.inr ⟨_, _, _, _, rfl, hm, rfl⟩)))
      · exact .inr (.inr (.inr (.inl rfl)))
    · split
      · exact .inl rfl
      · exact .inl rfl
      · exact .inr (.inr (.inr (.inl rfl)))
    · split
      · exact .inl rfl
      · exact .inl rfl
      · exact .inr (.inr (.inr (.inl rfl)))
    · exact .inr (.inr (.inr (.inl rfl)))

theorem eff_wr {o : Op} {h : Hp} {lo s : WS} {me : Option TypeId} (he : effOf τ fr o h lo = .wr s me) : s = lo ∧ ∀ b, s.top = some b → ∃ hb, h.t.get b = some hb ∧ hb.live = true := by
  have gen : ∀ me, genE h lo = .wr s me → s = lo ∧ ∀ b, s.top = some b → ∃ hb, h.t.get b = some hb ∧ hb.live = true := by
    intro me hg
    rcases genE_spec h lo with ⟨h1, _⟩ | ⟨h1, h2⟩ | h1 <;> rw [h1] at hg <;> cases hg
    exact ⟨rfl, h2⟩
  rcases effOf_gen (τ := τ) (fr := fr) (o := o) (h := h) (lo := lo) with hg | ⟨a, hg⟩ | ⟨a, t, hg⟩ | hg | ⟨t, m, k, r, _, _, hg⟩ <;> rw [hg] at he
  · cases he
  · cases he
  · cases he
  · exact gen _ he
  · rcases meE_spec t r (genE h lo) with hm | ⟨b, me', h1, hm | ⟨_, hm⟩⟩ <;> rw [hm] at he
    · exact gen _ he
    · cases he; exact gen _ h1
    · cases he; exact gen _ h1
theorem eff_all {o : Op} {h : Hp} {lo : WS} (he : effOf τ fr o h lo = .rdAll) : lo.noOld h.nx = true := by
  have gen : genE h lo = .rdAll → lo.noOld h.nx = true := by
    intro hg
    rcases genE_spec h lo with ⟨_, h1⟩ | ⟨h1, h2⟩ | h1
    · exact h1
    · rw [h1] at hg; cases hg
    · rw [h1] at hg; cases hg
  rcases effOf_gen (τ := τ) (fr := fr) (o := o) (h := h) (lo := lo) with hg | ⟨a, hg⟩ | ⟨a, t, hg⟩ | hg | ⟨t, m, k, r, _, _, hg⟩ <;> rw [hg] at he
  · cases he
  · cases he
  · cases he
  · exact gen he
  · rcases meE_spec t r (genE h lo) with hm | ⟨b, me', h1, hm | ⟨_, hm⟩⟩ <;> rw [hm] at he
    · exact gen he
    · cases he
    · cases he
theorem eff_me {o : Op} {h : Hp} {lo s : WS} {t : TypeId} (he : effOf τ fr o h lo = .wr s (some t)) : ∃ m k r, o = .mapEntry t m k ∧ ev τ fr m = some (.map (some r)) ∧ s = .one r := by
  have gen : genE h lo = .wr s (some t) → False := by
    intro hg
    rcases genE_spec h lo with ⟨h1, _⟩ | ⟨h1, h2⟩ | h1 <;> rw [h1] at hg <;> cases hg
  rcases effOf_gen (τ := τ) (fr := fr) (o := o) (h := h) (lo := lo) with hg | ⟨a, hg⟩ | ⟨a, t', hg⟩ | hg | ⟨t', m, k, r, ho, hm', hg⟩ <;> rw [hg] at he
  · cases he
  · cases he
  · cases he
  · exact (gen he).elim
  · rcases meE_spec t' r (genE h lo) with hm | ⟨b, me', h1, hm | ⟨hb, hm⟩⟩ <;> rw [hm] at he
    · exact (gen he).elim
    · cases he
    · cases he; subst hb; exact ⟨m, k, b, ho, hm', rfl⟩

theorem opK_leaf {o : Op} {h : Hp} {k kp : Value → Hp → RR} (h1 : ∀ c, o ≠ .call c) (h2 : ∀ it s, o ≠ .next it s) (h3 : ∀ x, o ≠ .panic x) :
    opK τ call fr h o k kp = (match leafB τ fr h o with | some (v, h') => k v h' | none => none) := by
  unfold opK
  cases o <;> first
    | rfl
    | exact absurd rfl (h1 _)
    | exact absurd rfl (h2 _ _)
    | exact absurd rfl (h3 _)

/-- What an operation that looks at no memory does. -/
theorem eff_non {o : Op} {h0 : Hp} {lo : WS} (he : effOf τ fr o h0 lo = .non) {h : Hp} {k kp : Value → Hp → RR} {outs : List Out} (hu : opK τ call fr h o k kp = some outs) :
    ∃ v nb, ∀ (h2 : Hp) (k2 kp2 : Value → Hp → RR), h2.nx = h.nx → opK τ call fr h2 o k2 kp2 = k2 v (newO h2 nb) := by
  have leaf : (∀ c, o ≠ .call c) → (∀ it s, o ≠ .next it s) → (∀ x, o ≠ .panic x) → Adds (fun h => leafB τ fr h o) h.nx → ∃ v nb, ∀ (h2 : Hp) (k2 kp2 : Value → Hp → RR), h2.nx = h.nx → opK τ call fr h2 o k2 kp2 = k2 v (newO h2 nb) := by
    intro h1 h2 h3 ha
    rw [opK_leaf h1 h2 h3] at hu
    rcases ha with ha | ⟨v, nb, ha⟩
    · have := ha h rfl
      simp only [] at this
      rw [this] at hu; cases hu
    · refine ⟨v, nb, fun h' k2 kp2 hn => ?_⟩
      rw [opK_leaf h1 h2 h3]
      have := ha h' hn
      simp only [] at this
      rw [this]
  unfold effOf at he
  cases hq : quietOp o with
  | true => exact leaf (fun c hc => by subst hc; cases hq) (fun i s hc => by subst hc; cases hq) (fun x hc => by subst hc; cases hq) (leaf_quiet hq _)
  | false =>
    rw [hq] at he
    simp only [cond_false] at he
    split at he
    · rename_i t
      refine leaf (by simp) (by simp) (by simp) ?_
      simp only [leafB]
      split
      · exact .new (fun n => ptr n 0) _ fun _ => rfl
      · exact .no fun _ => rfl
    · rename_i t x
      refine leaf (by simp) (by simp) (by simp) ?_
      simp only [leafB]
      split
      · exact .new (fun n => ptr n 0) _ fun _ => rfl
      · exact .no fun _ => rfl
    · rename_i t ps
      refine leaf (by simp) (by simp) (by simp) ?_
      simp only [leafB]
      split
      · exact .ok1 _ fun _ => rfl
      · exact .no fun _ => rfl
    · rename_i t n ps
      refine leaf (by simp) (by simp) (by simp) ?_
      simp only [leafB]
      split
      · rename_i vs hvs
        unfold buildSliceB
        split
        case h_2 => exact .no fun _ => rfl
        split
        case h_2 => exact .no fun _ => rfl
        rename_i i z _ _
        cases hc : (Nat.blt 0 i.size && Nat.beq (cellsOfV z).length i.size && Nat.ble (n * i.size) 16777216) with
        | false => simp only [cond_false]; exact .no fun _ => rfl
        | true =>
          simp only [cond_true]
          split
          · exact .new (fun n => .slice (some ⟨n, 0, none⟩) _ _) _ fun _ => rfl
          · exact .no fun _ => rfl
      · exact .no fun _ => rfl
    · rename_i t l c
      refine leaf (by simp) (by simp) (by simp) ?_
      simp only [leafB]
      split
      · unfold makeSliceB
        split
        case h_2 => exact .no fun _ => rfl
        split
        case h_2 => exact .no fun _ => rfl
        rename_i e l c _ _ _ _ _ i z _ _
        cases hc : (Nat.ble l c && bigNo (c * i.bytes) && bigNo c && Nat.blt 0 i.size && Nat.beq (cellsOfV z).length i.size) with
        | false => simp only [cond_false]; exact .no fun _ => rfl
        | true => simp only [cond_true]; exact .new (fun n => .slice (some ⟨n, 0, none⟩) _ _) _ fun _ => rfl
      · exact .no fun _ => rfl
    · rename_i t r
      refine leaf (by simp) (by simp) (by simp) ?_
      simp only [leafB]
      split
      · exact .new (fun n => .map (some n)) _ fun _ => rfl
      · split
        · exact .new (fun n => .map (some n)) _ fun _ => rfl
        · exact .no fun _ => rfl
      · exact .no fun _ => rfl
    · split at he
      · cases he
      · exact (genE_shape.2.2 he).elim
    · rename_i ok
      split at he
      · cases ok <;> cases he
      · exact (genE_shape.2.2 he).elim
    · split at he
      · exact (meE_shape.2.2 he).elim
      · exact (genE_shape.2.2 he).elim
    · rename_i s d x
      refine leaf (by simp) (by simp) (by simp) ?_
      simp only [leafB]
      split at he
      · rename_i k n hx; rw [hx]; exact conv_quiet (.inl ⟨_, _, rfl⟩) _
      · rename_i s hx; rw [hx]; exact conv_quiet (.inr ⟨_, rfl⟩) _
      · exact (genE_shape.2.2 he).elim
    · rename_i args tys
      have key : ∀ v vs, evs τ fr args.toList = some [v] → (∀ h2, lenOpB τ tys.toList [v] h2 = vs) → ∃ v nb, ∀ (h2 : Hp) (k2 kp2 : Value → Hp → RR), h2.nx = h.nx → opK τ call fr h2 (.call ⟨.builtin .len, args, tys⟩) k2 kp2 = k2 v (newO h2 nb) := by
        intro v vs hv hl
        have hop : ∀ (h2 : Hp) (k2 kp2 : Value → Hp → RR), opK τ call fr h2 (.call ⟨.builtin .len, args, tys⟩) k2 kp2 = (match vs with | some u => k2 u h2 | none => none) := by
          intro h2 k2 kp2
          simp only [opK, callB, hv, builtinB, hl h2]
          cases vs <;> rfl
        rw [hop] at hu
        cases vs with
        | none => cases hu
        | some u => exact ⟨u, none, fun h2 k2 kp2 _ => hop h2 k2 kp2⟩
      split at he
      · rename_i a b c hx
        refine key _ (lenOpB τ tys.toList [.slice a b c] h) hx fun h2 => ?_
        unfold lenOpB
        split
        · rename_i t ts x xs h1 h2'
          cases h2'
          split
          · rfl
          · rename_i td _
            cases td <;> rfl
        · rfl
      · rename_i s hx
        refine key _ (lenOpB τ tys.toList [.string s] h) hx fun h2 => ?_
        unfold lenOpB
        split
        · rename_i t ts x xs h1 h2'
          cases h2'
          split
          · rfl
          · rename_i td _
            cases td <;> rfl
        · rfl
      · exact (genE_shape.2.2 he).elim
    · exact (genE_shape.2.2 he).elim

/-- What an operation that looks at one block does. -/
theorem eff_rd {o : Op} {h0 : Hp} {lo : WS} {a : Nat} (he : effOf τ fr o h0 lo = .rd a) {h : Hp} {k kp : Value → Hp → RR} {outs : List Out} (hu : opK τ call fr h o k kp = some outs) :
    ∃ v, ∀ (h2 : Hp) (k2 kp2 : Value → Hp → RR), h2.t.get a = h.t.get a → opK τ call fr h2 o k2 kp2 = k2 v h2 := by
  have leaf : (∀ c, o ≠ .call c) → (∀ it s, o ≠ .next it s) → (∀ x, o ≠ .panic x) → (∃ X : Hp → Option Value, (∀ h2, leafB τ fr h2 o = ok1 h2 (X h2)) ∧ ∀ h2, h2.t.get a = h.t.get a → X h2 = X h) →
      ∃ v, ∀ (h2 : Hp) (k2 kp2 : Value → Hp → RR), h2.t.get a = h.t.get a → opK τ call fr h2 o k2 kp2 = k2 v h2 := by
    rintro h1 h2 h3 ⟨X, x1, x2⟩
    rw [opK_leaf h1 h2 h3, x1] at hu
    cases hX : X h with
    | none => rw [hX] at hu; cases hu
    | some v =>
      refine ⟨v, fun h' k2 kp2 hg => ?_⟩
      rw [opK_leaf h1 h2 h3, x1, x2 h' hg, hX]; rfl
  unfold effOf at he
  cases hq : quietOp o with
  | true => rw [hq] at he; cases he
  | false =>
    rw [hq] at he
    simp only [cond_false] at he
    split at he
    · cases he
    · cases he
    · cases he
    · cases he
    · cases he
    · cases he
    · rename_i t x
      split at he
      · rename_i id off hx
        cases he
        refine leaf (by simp) (by simp) (by simp) ⟨fun h2 => loadAtB τ t h2 a off, fun h2 => ?_, fun h2 hg => ?_⟩
        · simp only [leafB, hx]
        · simp only [loadAtB, hg]
      · exact (genE_shape.1 _ he).elim
    · rename_i t m x ok
      split at he
      · rename_i r hx
        cases ok with
        | false => cases he
        | true =>
        cases he
        refine leaf (by simp) (by simp) (by simp) ⟨fun h2 => (match ev τ fr x with | some i => lookupB τ t (.map (some a)) i true h2 | none => none), fun h2 => ?_, fun h2 hg => ?_⟩
        · simp only [leafB, hx]
          cases ev τ fr x <;> rfl
        · simp only []
          split
          · simp only [lookupB, hg]
          · rfl
      · exact (genE_shape.1 _ he).elim
    · split at he
      · exact (meE_shape.1 _ he).elim
      · exact (genE_shape.1 _ he).elim
    · split at he
      · cases he
      · cases he
      · exact (genE_shape.1 _ he).elim
    · split at he
      · cases he
      · cases he
      · exact (genE_shape.1 _ he).elim
    · exact (genE_shape.1 _ he).elim

/-- Two contents of a map that yield the same for every key (where it is not asked whether it is there). -/
def LkEq (τ : Tab) (t : TypeId) (a : Nat) (c c' : Option HB) : Prop := ∀ (x : Value) (h h' : Hp), h.t.get a = c → h'.t.get a = c' → lookupB τ t (.map (some a)) x false h = lookupB τ t (.map (some a)) x false h'
theorem LkEq.refl (t : TypeId) (a : Nat) (c : Option HB) : LkEq τ t a c c := fun x h h' e e' => by simp only [lookupB, e, e']
theorem LkEq.symm {t : TypeId} {a : Nat} {c c' : Option HB} (h : LkEq τ t a c c') : LkEq τ t a c' c := fun x h1 h2 e e' => (h x h2 h1 e' e).symm
theorem LkEq.trans {t : TypeId} {a : Nat} {c c' c'' : Option HB} (h : LkEq τ t a c c') (h' : LkEq τ t a c' c'') : LkEq τ t a c c'' := fun x h1 h2 e e' => by
  cases c' with
  | none => exact (h x h1 ⟨.nil, 0, .no⟩ e rfl).trans (h' x ⟨.nil, 0, .no⟩ h2 rfl e')
  | some b => exact (h x h1 ⟨T.nil.ins a b, 0, .no⟩ e (T.get_ins_same b T.nil a)).trans (h' x ⟨T.nil.ins a b, 0, .no⟩ h2 (T.get_ins_same b T.nil a) e')

/-- What an operation that looks a key up does. -/
theorem eff_lk {o : Op} {h0 : Hp} {lo : WS} {a t : Nat} (he : effOf τ fr o h0 lo = .lk a t) {h : Hp} {k kp : Value → Hp → RR} {outs : List Out} (hu : opK τ call fr h o k kp = some outs) :
    ∃ v, ∀ (h2 : Hp) (k2 kp2 : Value → Hp → RR), LkEq τ t a (h2.t.get a) (h.t.get a) → opK τ call fr h2 o k2 kp2 = k2 v h2 := by
  unfold effOf at he
  cases hq : quietOp o with
  | true => rw [hq] at he; cases he
  | false =>
    rw [hq] at he
    simp only [cond_false] at he
    split at he
    · cases he
    · cases he
    · cases he
    · cases he
    · cases he
    · cases he
    · split at he
      · cases he
      · exact (genE_shape.2.1 _ _ he).elim
    · rename_i t m x ok
      split at he
      · rename_i r hx
        cases ok with
        | true => cases he
        | false =>
        cases he
        have hop : ∀ (h2 : Hp) (k2 kp2 : Value → Hp → RR), opK τ call fr h2 (.lookup t m x false) k2 kp2 = (match ev τ fr x with | some i => (match lookupB τ t (.map (some a)) i false h2 with | some v => k2 v h2 | none => none) | none => none) := by
          intro h2 k2 kp2
          rw [opK_leaf (by simp) (by simp) (by simp)]
          simp only [leafB, hx]
          cases ev τ fr x with
          | none => rfl
          | some i =>
            simp only []
            cases lookupB τ t (.map (some a)) i false h2 <;> rfl
        rw [hop] at hu
        cases hi : ev τ fr x with
        | none => rw [hi] at hu; cases hu
        | some i =>
          rw [hi] at hu
          simp only [] at hu
          cases hl : lookupB τ t (.map (some a)) i false h with
          | none => rw [hl] at hu; cases hu
          | some v =>
            refine ⟨v, fun h2 k2 kp2 hlk => ?_⟩
            rw [hop, hi]
            simp only []
            rw [hlk i h2 h rfl rfl, hl]
      · exact (genE_shape.2.1 _ _ he).elim
    · split at he
      · exact (meE_shape.2.1 _ _ he).elim
      · exact (genE_shape.2.1 _ _ he).elim
    · split at he
      · cases he
      · cases he
      · exact (genE_shape.2.1 _ _ he).elim
    · split at he
      · cases he
      · cases he
      · exact (genE_shape.2.1 _ _ he).elim
    · exact (genE_shape.2.1 _ _ he).elim

/-! ### only the operands are looked at -/
theorem evs_congr {fr' : Fr} : ∀ {l : List Operand}, (∀ x ∈ l, ev τ fr x = ev τ fr' x) → evs τ fr l = evs τ fr' l
  | [], _ => rfl
  | x :: l, h => by
    simp only [evs]
    rw [h x List.mem_cons_self, evs_congr fun y hy => h y (List.mem_cons_of_mem _ hy)]
theorem evps_congr {fr' : Fr} : ∀ {l : List (Nat × Operand)}, (∀ x ∈ l.map (·.2), ev τ fr x = ev τ fr' x) → evps τ fr l = evps τ fr' l
  | [], _ => rfl
  | (i, x) :: l, h => by
    simp only [evps]
    rw [h x (by simp), evps_congr fun y hy => h y (by simp only [List.map_cons]; exact List.mem_cons_of_mem _ hy)]
theorem evo_congr {fr' : Fr} {x : Option Operand} (h : ∀ y ∈ x, ev τ fr y = ev τ fr' y) : evo τ fr x = evo τ fr' x := by
  cases x with
  | none => rfl
  | some x => simp only [evo]; rw [h x rfl]

theorem leafB_congr {fr' : Fr} {o : Op} {h : Hp} (hx : ∀ x ∈ o.operands, ev τ fr x = ev τ fr' x) : leafB τ fr h o = leafB τ fr' h o := by
  cases o <;> simp only [Op.operands] at hx <;> simp only [leafB]
  case build t ps => rw [evps_congr fun x hm => hx x (by simpa using hm)]
  case buildSlice t n ps => rw [evps_congr fun x hm => hx x (by simpa using hm)]
  case makeFunc fn a b =>
    rw [evs_congr (l := a.toList) fun x hm => hx x (by simp at hm; simp [hm]), evs_congr (l := b.toList) fun x hm => hx x (by simp at hm; simp [hm])]
  case makeMap t r => rw [evo_congr (x := r) fun y hy => hx y (by simp at hy; simp [hy])]
  case slice t x lo hi mx =>
    rw [hx x (by simp), evo_congr (x := lo) fun y hy => hx y (by simp at hy; simp [hy]), evo_congr (x := hi) fun y hy => hx y (by simp at hy; simp [hy]),
      evo_congr (x := mx) fun y hy => hx y (by simp at hy; simp [hy])]
  case pick c a b =>
    rw [hx c (by simp)]
    split
    · rename_i t _; cases t
      · rw [if_neg (by simp), hx b (by simp)]
      · rw [if_pos rfl, hx a (by simp)]
    · rfl
  all_goals first
    | rfl
    | (rename_i x y; rw [hx x (by simp), hx y (by simp)]; done)
    | simp_all

theorem opK_congr {fr' : Fr} {o : Op} {h : Hp} {k kp : Value → Hp → RR} (hx : ∀ x ∈ o.operands, ev τ fr x = ev τ fr' x) : opK τ call fr h o k kp = opK τ call fr' h o k kp := by
  by_cases h1 : ∃ c, o = .call c
  · obtain ⟨c, rfl⟩ := h1
    simp only [Op.operands] at hx
    simp only [opK, callB]
    rw [evs_congr (l := c.args.toList) fun x hm => hx x (by simp at hm; simp [Call.operands, hm])]
    cases hc : c.callee with
    | builtin b => rfl
    | invoke r n => simp only []; rw [hx r (by simp [Call.operands, hc])]
    | value f => simp only []; rw [hx f (by simp [Call.operands, hc])]
  by_cases h2 : ∃ it s, o = .next it s
  · obtain ⟨it, s, rfl⟩ := h2
    simp only [opK]; rw [hx it (by simp [Op.operands])]
  by_cases h3 : ∃ x, o = .panic x
  · obtain ⟨x, rfl⟩ := h3
    simp only [opK]; rw [hx x (by simp [Op.operands])]
  rw [opK_leaf (fun c hc => h1 ⟨c, hc⟩) (fun i s hc => h2 ⟨i, s, hc⟩) (fun x hc => h3 ⟨x, hc⟩), opK_leaf (fun c hc => h1 ⟨c, hc⟩) (fun i s hc => h2 ⟨i, s, hc⟩) (fun x hc => h3 ⟨x, hc⟩), leafB_congr hx]
end
end Go.Ev
