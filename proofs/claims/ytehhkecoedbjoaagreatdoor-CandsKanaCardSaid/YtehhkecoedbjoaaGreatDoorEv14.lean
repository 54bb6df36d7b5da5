/-
  The evaluator of closed runs (a part): EvS32, EvS33, EvS34, EvS35.
-/
import Derived.Test.YtehhkecoedbjoaaGreatDoorEv13
set_option linter.unusedVariables false
set_option linter.unusedSimpArgs false
set_option linter.unusedSectionVars false
section
/-
  Loops that collect a map's entries: the parts.
-/
namespace Go.Ev
theorem gather_all {c : T Value} : ∀ (l : List Value) (off : Nat), (∀ (j : Nat) v, l[j]? = some v → c.get (off + j) = some v) → gather c l.length off = some l
  | [], _, _ => rfl
  | v :: l, off, h => by
    have h0 : c.get off = some v := h 0 v rfl
    have ih := gather_all l (off + 1) fun j u hu => by have := h (j + 1) u (by simpa using hu); rw [← this]; congr 1; omega
    show (match c.get off with | some v => (match gather c l.length (Nat.succ off) with | some l => some (v :: l) | none => none) | none => none) = _
    rw [h0]
    simp only []
    have ih : gather c l.length (Nat.succ off) = some l := ih
    rw [ih]
theorem gather_laid (l : List Value) (c : T Value) : gather (T.laid l 0 c) l.length 0 = some l :=
  gather_all l 0 fun j v hv => by
    rw [T.get_laid]
    have hj := (List.getElem?_eq_some_iff.1 hv).1
    rw [if_pos (by omega)]
    simpa using hv
theorem putAt_pre : ∀ (vs pre cs : List Value), cs.length = vs.length → putAt (pre ++ cs) pre.length vs = pre ++ vs
  | [], pre, cs, h => by
    have : cs = [] := List.eq_nil_of_length_eq_zero h
    subst this; simp [putAt]
  | v :: vs, pre, cs, h => by
    obtain ⟨x, cs, rfl⟩ : ∃ x cs', cs = x :: cs' := by
      cases cs with
      | nil => simp at h
      | cons x cs => exact ⟨x, cs, rfl⟩
    have e1 : (pre ++ x :: cs).set pre.length v = (pre ++ [v]) ++ cs := by
      rw [List.set_append_right _ _ (Nat.le_refl _)]; simp
    simp only [putAt, e1]
    have := putAt_pre vs (pre ++ [v]) cs (by simpa using h)
    rw [List.length_append] at this
    simp only [List.length_cons, List.length_nil, Nat.zero_add] at this
    rw [this]; simp
theorem putAt_zero {vs cs : List Value} (h : cs.length = vs.length) : putAt cs 0 vs = vs := by
  have := putAt_pre vs [] cs h
  simpa using this
theorem repl_one (z : List Value) : repl z 1 = z := by simp [repl]

section
variable {P : Program} {τ : Tab} {L : Nat} {call : CallF}

/-- The elements' type. -/
structure ElemT (τ : Tab) (e tsl : TypeId) (i : TypeInfo) (z : Value) : Prop where
  ds : ∃ fs, τ.ds.get e = some (.struct fs)
  sl : τ.ds.get tsl = some (.slice e)
  inf : τ.inf.get e = some i
  zv : zeroV τ e = some z
  pos : 0 < i.size
  zl : (cellsOfV z).length = i.size
  zo : (cellsOfV z).all one = true
  small : i.size ≤ 1000

theorem plain_one {l : List Value} (h : l.all plainCell = true) : l.all one = true := by
  refine List.all_eq_true.2 fun v hv => ?_
  have := List.all_eq_true.1 h v hv
  unfold plainCell at this
  split at this <;> first
    | rfl
    | cases this

theorem build_one {e tsl : TypeId} {i : TypeInfo} {z : Value} (he : ElemT τ e tsl i z) {g : List Value} (hg : g.length = i.size) (hp : g.all plainCell = true) (h : Hp) :
    buildSliceB τ tsl 1 [(0, .agg ⟨g⟩)] h = some (.slice (some ⟨h.nx, 0, none⟩) 1 1, rowOf h e g) := by
  have c1 : Nat.blt 0 i.size = true := by rw [Nat.blt_eq]; exact he.pos
  have c2 : Nat.beq (cellsOfV z).length i.size = true := by rw [he.zl]; simp
  have c3 : Nat.ble (1 * i.size) 16777216 = true := Nat.ble_eq_true_of_le (by have := he.small; omega)
  have c4 : Nat.beq (cellsOfV (.agg ⟨g⟩)).length i.size = true := by show Nat.beq g.length i.size = true; rw [hg]; simp
  have c5 : Nat.ble (0 * i.size + i.size) (cellsOfV z).length = true := Nat.ble_eq_true_of_le (by rw [he.zl]; omega)
  have c6 : (cellsOfV (.agg ⟨g⟩)).all one = true := plain_one hp
  have c7 : putAt (cellsOfV z) (0 * i.size) (cellsOfV (.agg ⟨g⟩)) = g := by
    rw [Nat.zero_mul]; exact putAt_zero (by show _ = g.length; rw [he.zl, hg])
  simp only [buildSliceB, he.sl, he.inf, he.zv, c1, c2, c3, Bool.and_self, cond_true, fillB, repl_one, c4, c5, c6, c7]

theorem bigNo_of_le {n : Nat} (h : n ≤ 1099511627776) : bigNo n = true := Nat.ble_eq_true_of_le h

/-- What 'out' is after n elements, and what its block holds. -/
def outV (N : Nat) : Nat → Value
  | 0 => .slice none 0 0
  | n + 1 => .slice (some ⟨N + 3 * (n + 1) - 1, 0, none⟩) (n + 1) (n + 1)
noncomputable def outH (h : Hp) (N : Nat) (e : TypeId) (old g : List Value) : Nat → Hp
  | 0 => rowA h e g
  | n + 1 => (h.put (N + 3 * (n + 1) - 1) .dead).new (.cells (T.laid (old ++ g) 0 .nil) (old ++ g).length e 0 0 false)

theorem append_one {e tsl : TypeId} {i : TypeInfo} {z : Value} (he : ElemT τ e tsl i z) {g old : List Value} (hg : g.length = i.size) (hp : g.all plainCell = true) {h : Hp} {N n idg : Nat} (hN : h.nx = N + 3 * (n + 1) - 1)
    (hb : (100000 * i.bytes) ≤ 1099511627776) (hn : n < 100000) (hold : n ≠ 0 → h.t.get (N + 3 * n - 1) = some (.cells (T.laid old 0 .nil) old.length e 0 0 false)) (hol : old.length = n * i.size)
    (hgc : h.t.get idg = some (.cells (T.laid g 0 .nil) g.length e 0 0 true)) :
    builtinB τ .append [tsl, tsl] [outV N n, .slice (some ⟨idg, 0, none⟩) 1 1] h = some (outV N (n + 1), outH h N e old g n) := by
  have c1 : Nat.blt 0 i.size = true := by rw [Nat.blt_eq]; exact he.pos
  have c2 : Nat.beq (cellsOfV z).length i.size = true := by rw [he.zl]; simp
  have c3 := he.zo
  have c4 : g.all one = true := plain_one hp
  have hi : isIntT τ (some tsl) = false := by simp only [isIntT, he.sl]
  have hsrc : srcB i.size h (.slice (some ⟨idg, 0, none⟩) 1 1) 1 = some g := by
    simp only [srcB, hgc]
    rw [Nat.one_mul, ← hg]; exact gather_laid g .nil
  simp only [builtinB]
  cases n with
  | zero =>
    have c5 : (bigNo (1 * i.bytes) && bigNo 1) = true := by rw [bigNo_of_le (by omega), bigNo_of_le (by omega)]; rfl
    have hx : h.nx = N + 3 * (0 + 1) - 1 := hN
    simp only [appendB, outV, List.head?_cons, hi, cond_false, he.sl, he.inf, he.zv, lenB, hsrc, c1, c2, c3, c4, Bool.and_self, cond_true, c5, outH]
    have : Nat.beq 1 0 = false := rfl
    rw [this]
    simp only [cond_false]
    rw [hx]
  | succ n =>
    have c5 : (bigNo ((n + 1 + 1) * i.bytes) && bigNo (n + 1 + 1)) = true := by
      have : (n + 1 + 1) * i.bytes ≤ 100000 * i.bytes := Nat.mul_le_mul_right _ (by omega)
      rw [bigNo_of_le (by omega), bigNo_of_le (by omega)]; rfl
    have c6 : Nat.ble (n + 1 + 1) (n + 1) = false := Bool.eq_false_iff.2 fun hh => by have := Nat.le_of_ble_eq_true hh; omega
    have hold := hold (by omega)
    have c7 : gather (T.laid old 0 .nil) ((n + 1) * i.size) 0 = some old := by rw [← hol]; exact gather_laid old .nil
    have c8 : (Nat.beq (0 + (n + 1) * i.size) old.length && (Nat.ble 0 0 || (Nat.ble 0 0 && Nat.ble 0 (0 + (n + 1) * i.size)))) = true := by
      rw [hol, Nat.zero_add]; simp
    have c9 : Nat.beq e e = true := by simp
    simp only [appendB, outV, List.head?_cons, hi, cond_false, he.sl, he.inf, he.zv, lenB, hsrc, c1, c2, c3, c4, Bool.and_self, cond_true, c5, c6, outH, hold, c7, c8, c9]
    have c10 : Nat.ble 0 0 = true := rfl
    simp only [c10, cond_true]
    rw [hN]
end
end Go.Ev
end

section
/-
  Loops that collect a map's entries.
-/
namespace Go.Ev
theorem nodup_len {α : Type} [DecidableEq α] : ∀ {l m : List α}, l.Nodup → (∀ x ∈ l, x ∈ m) → l.length ≤ m.length
  | [], _, _, _ => Nat.zero_le _
  | a :: l, m, hn, hs => by
    rw [List.nodup_cons] at hn
    have ha := hs a List.mem_cons_self
    have ih := nodup_len (l := l) (m := m.erase a) hn.2 fun x hx => by
      have hne : x ≠ a := fun hh => hn.1 (hh ▸ hx)
      exact (List.mem_erase_of_ne hne).2 (hs x (List.mem_cons_of_mem _ hx))
    rw [List.length_erase_of_mem ha] at ih
    have : 0 < m.length := List.length_pos_of_mem ha
    rw [List.length_cons]; omega
theorem none_spec {t : T HB} : ∀ (n id : Nat), noneB t id n = true → ∀ j, id ≤ j → j < id + n → t.get j = none
  | 0, _, _, j, h1, h2 => by omega
  | n + 1, id, h, j, h1, h2 => by
    simp only [noneB, Bool.and_eq_true] at h
    by_cases hj : j = id
    · subst hj
      cases hg : t.get j with
      | none => rfl
      | some x => rw [hg] at h; exact absurd h.1 (by simp)
    · exact none_spec n (id + 1) h.2 j (by omega) (by omega)
theorem imgsC_append {f : Img} : ∀ {l : List MapEntry} {gs : List (List Value)} {e : MapEntry} {g : List Value}, imgsC f l = some gs → f e = some g → imgsC f (l ++ [e]) = some (gs ++ [g])
  | [], gs, e, g, h, hg => by simp only [imgsC, Option.some.injEq] at h; subst h; simp [imgsC, hg]
  | x :: l, gs, e, g, h, hg => by
    simp only [imgsC] at h
    split at h
    case h_2 => cases h
    rename_i gx r h1 h2
    simp only [Option.some.injEq] at h; subst h
    simp only [List.cons_append, imgsC, h1, imgsC_append h2 hg]
theorem imgsC_spec {f : Img} : ∀ {l : List MapEntry} {gs : List (List Value)}, imgsC f l = some gs → gs.length = l.length ∧ (∀ e ∈ l, ∃ g, f e = some g ∧ g ∈ gs) ∧ gs = l.filterMap f ∧ ∀ g ∈ gs, ∃ e ∈ l, f e = some g
  | [], gs, h => by simp only [imgsC, Option.some.injEq] at h; subst h; exact ⟨rfl, fun e he => (by cases he), rfl, fun g hg => (by cases hg)⟩
  | x :: l, gs, h => by
    simp only [imgsC] at h
    split at h
    case h_2 => cases h
    rename_i gx r h1 h2
    simp only [Option.some.injEq] at h; subst h
    obtain ⟨i1, i2, i3, i4⟩ := imgsC_spec h2
    refine ⟨by simp [i1], fun e he => ?_, by rw [List.filterMap_cons, h1, i3], fun g hg => ?_⟩
    · rcases List.mem_cons.1 he with rfl | he
      · exact ⟨gx, h1, List.mem_cons_self⟩
      · obtain ⟨g, g1, g2⟩ := i2 e he; exact ⟨g, g1, List.mem_cons_of_mem _ g2⟩
    · rcases List.mem_cons.1 hg with rfl | hg
      · exact ⟨x, List.mem_cons_self, h1⟩
      · obtain ⟨e, e1, e2⟩ := i4 g hg; exact ⟨e, List.mem_cons_of_mem _ e1, e2⟩

section
variable {P : Program} {τ : Tab} {ro : Option Nat}

/-- After the entries D. -/
structure ColInv (f : Img) (e : TypeId) (W : List Tmp) (tout : Tmp) (fr0 : Fr) (h0 : Hp) (hEl : WS) (r m since ck : Nat) (es D : List MapEntry) (fr : Fr) (h : Hp) : Prop where
  sz : fr.sz = fr0.sz
  ds : fr.ds = fr0.ds
  tm : ∀ t, t ∉ W → t ≠ tout → fr.tm.get t = fr0.tm.get t
  out : fr.tm.get tout = some (outV h0.nx D.length)
  nx : h.nx = h0.nx + 3 * D.length
  lo : hEl ≤ h.lo
  sub : ∀ e ∈ D, e ∈ es
  nodup : (D.map (·.born)).Nodup
  it : ∃ last', h.t.get r = some (.miter (some m) since (D.map (·.born)) last') ∧ (D = [] ∨ last' = ck)
  row : ∃ gs, imgsC f D = some gs ∧ (D ≠ [] → h.t.get (h0.nx + 3 * D.length - 1) = some (.cells (T.laid gs.flatten 0 .nil) gs.flatten.length e 0 0 false))
  mem : ∀ id, id < h0.nx → id ≠ r → h.t.get id = h0.t.get id

/-- Behind the part of a round that reads the entry: the element is read from block h0.nx + 3 n. -/
structure ColMid (τ : Tab) (f : Img) (e : TypeId) (W : List Tmp) (tout tx : Tmp) (fr0 : Fr) (h0 : Hp) (hEl : WS) (r m since ck : Nat) (es D : List MapEntry) (en : MapEntry) (g : List Value) (fr : Fr) (h : Hp) : Prop where
  sz : fr.sz = fr0.sz
  ds : fr.ds = fr0.ds
  tm : ∀ t, t ∉ W → t ≠ tout → fr.tm.get t = fr0.tm.get t
  out : fr.tm.get tout = some (outV h0.nx D.length)
  x : fr.tm.get tx = some (ptr (h0.nx + 3 * D.length) 0)
  ld : loadAtB τ e h (h0.nx + 3 * D.length) 0 = some (.agg ⟨g⟩)
  nx : h.nx = h0.nx + 3 * D.length + 1
  lo : hEl ≤ h.lo
  it : h.t.get r = some (.miter (some m) since (D.map (·.born) ++ [en.born]) ck)
  row : ∃ gs, imgsC f D = some gs ∧ (D ≠ [] → h.t.get (h0.nx + 3 * D.length - 1) = some (.cells (T.laid gs.flatten 0 .nil) gs.flatten.length e 0 0 false))
  mem : ∀ id, id < h0.nx → id ≠ r → h.t.get id = h0.t.get id

/-- The round's last region: 'out = append(out, x)'. -/
theorem collect_last {f : Img} {e tsl : TypeId} {i : TypeInfo} {z : Value} (he : ElemT τ e tsl i z) {W : List Tmp} {tout tx a1 a2 a3 a4 : Tmp} {fr0 : Fr} {h0 : Hp} {hEl : WS} {r m since ck : Nat} {es D : List MapEntry} {en : MapEntry} {g : List Value} {fr : Fr} {h : Hp}
    (hm : ColMid τ f e W tout tx fr0 h0 hEl r m since ck es D en g fr h) (hf : f en = some g) (hg : g.length = i.size) (hp : g.all plainCell = true) (hall : ∀ g gs, imgsC f D = some gs → g ∈ gs → g.length = i.size)
    (hsub : ∀ e ∈ D, e ∈ es) (hen : en ∈ es) (hnd : (D.map (·.born)).Nodup) (hnb : en.born ∉ D.map (·.born)) (hb : 100000 * i.bytes ≤ 1099511627776) (hn : D.length < 100000) (hr : r < h0.nx) (hcov : ∀ id, r ≤ id → hEl.has id)
    (hW : ∀ t ∈ [a1, a2, a3, a4], t ∈ W ∧ t < fr0.sz) (ht : tout < fr0.sz) (hd : tx ≠ a1 ∧ a1 ≠ a2 ∧ a1 ≠ a3 ∧ a2 ≠ a3)
    {A : Array Oper} {j : Nat} (hA : A.toList.map keyOf = [(some a1, .move (.tmp tout)), (some a2, .load e (.tmp tx)), (some a3, .buildSlice tsl 1 #[(0, .tmp a2)]), (some a4, .call ⟨.builtin .append, #[.tmp a1, .tmp a3], #[tsl, tsl]⟩), (some tout, .assign (.tmp a4))])
    (hAg : (A.toList.all fun o => o.guard.isNone && noDefer o.op) = true) {L : Nat} :
    ∃ fr2 h2, ColInv f e W tout fr0 h0 hEl r m since ck es (D ++ [en]) fr2 h2 ∧ ∀ K : Kt, codeK τ noCall L ro (.region j A false) K fr h = K.n fr2 h2 := by
  obtain ⟨gs, hgs, hrow⟩ := hm.row
  have hlen : gs.length = D.length := (imgsC_spec hgs).1
  have hfl : gs.flatten.length = D.length * i.size := by rw [flatten_len gs (fun g hg => hall g gs hgs hg), hlen]
  have hsz : ∀ t ∈ [a1, a2, a3, a4], t < fr.sz := fun t ht => by rw [hm.sz]; exact (hW t ht).2
  let h1 : Hp := rowOf h e g
  let h2 : Hp := outH h1 h0.nx e gs.flatten g D.length
  have h1nx : h1.nx = h0.nx + 3 * (D.length + 1) - 1 := by show h.nx + 1 = _; rw [hm.nx]; omega
  have hap := append_one he hg hp (old := gs.flatten) (h := h1) (N := h0.nx) (n := D.length) (idg := h.nx) h1nx hb hn (fun hne => by
      show (h.t.ins h.nx _).get _ = _
      rw [T.get_ins_ne _ _ (by rw [hm.nx]; omega)]
      exact hrow (fun hh => hne (by rw [hh]; rfl))) hfl (T.get_ins_same _ _ _)
  let f1 : Fr := ((fr.lay a1 (outV h0.nx D.length)).lay a2 (.agg ⟨g⟩)).lay a3 (.slice (some ⟨h.nx, 0, none⟩) 1 1)
  let f2 : Fr := (f1.lay a4 (outV h0.nx (D.length + 1))).lay tout (outV h0.nx (D.length + 1))
  have hDn : (D ++ [en]).length = D.length + 1 := by simp
  have hget : ∀ id, id < h0.nx → h2.t.get id = h.t.get id := by
    intro id hid
    have e1 : h1.t.get id = h.t.get id := T.get_ins_ne _ _ (by rw [hm.nx]; omega)
    rw [← e1]
    show (outH h1 h0.nx e gs.flatten g D.length).t.get id = _
    cases hDl : D.length with
    | zero => exact T.get_ins_ne _ _ (Nat.ne_of_lt (show id < h1.nx by rw [h1nx]; omega))
    | succ n =>
      show ((h1.t.ins _ .dead).ins h1.nx _).get id = _
      rw [T.get_ins_ne _ _ (Nat.ne_of_lt (show id < h1.nx by rw [h1nx]; omega)), T.get_ins_ne _ _ (by omega)]
  refine ⟨f2, h2, ⟨hm.sz, hm.ds, fun t ht1 ht2 => ?_, ?_, ?_, ?_, fun x hx => ?_, ?_, ⟨ck, ?_, .inr rfl⟩, ⟨gs ++ [g], imgsC_append hgs hf, fun _ => ?_⟩, fun id hid hir => ?_⟩, fun K => ?_⟩
  · rw [← hm.tm t ht1 ht2]
    have t1 : t ≠ a1 := fun hh => ht1 (hh ▸ (hW a1 (by simp)).1)
    have t2 : t ≠ a2 := fun hh => ht1 (hh ▸ (hW a2 (by simp)).1)
    have t3 : t ≠ a3 := fun hh => ht1 (hh ▸ (hW a3 (by simp)).1)
    have t4 : t ≠ a4 := fun hh => ht1 (hh ▸ (hW a4 (by simp)).1)
    simp only [f2, f1, Fr.lay_get, if_neg t1, if_neg t2, if_neg t3, if_neg t4, if_neg ht2]
  · rw [hDn]; simp only [f2, Fr.lay_get, if_true]
  · rw [hDn]
    show (outH h1 h0.nx e gs.flatten g D.length).nx = _
    cases hDl : D.length with
    | zero => show h1.nx + 1 = _; rw [h1nx, hDl]; omega
    | succ n => show h1.nx + 1 = _; rw [h1nx, hDl]; omega
  · show hEl ≤ (outH h1 h0.nx e gs.flatten g D.length).lo
    cases hDl : D.length with
    | zero => exact hm.lo
    | succ n => exact lower_cover hm.lo (hcov _ (by omega))
  · rcases List.mem_append.1 hx with hx | hx
    · exact hsub x hx
    · rw [List.mem_singleton.1 hx]; exact hen
  · rw [List.map_append, List.nodup_append]
    refine ⟨hnd, by simp, fun a ha b hb hab => ?_⟩
    simp only [List.map_cons, List.map_nil, List.mem_singleton] at hb
    subst hb; subst hab; exact hnb ha
  · rw [hget r hr, hm.it, List.map_append]; rfl
  · rw [hDn]
    have hff : (gs ++ [g]).flatten = gs.flatten ++ g := by simp
    rw [hff]
    show (outH h1 h0.nx e gs.flatten g D.length).t.get _ = _
    cases hDl : D.length with
    | zero =>
      have : gs = [] := List.eq_nil_of_length_eq_zero (by omega)
      subst this
      show (h1.t.ins h1.nx _).get _ = _
      rw [h1nx, hDl, T.get_ins_same]; rfl
    | succ n =>
      show ((h1.t.ins _ .dead).ins h1.nx _).get _ = _
      rw [h1nx, hDl, T.get_ins_same]
  · rw [hget id hid]; exact hm.mem id hid hir
  · rw [codeK_region hAg, hA]
    have g1 : ev τ fr (.tmp tout) = some (outV h0.nx D.length) := hm.out
    refine (keysK_lay (v := outV h0.nx D.length) rfl (by exact leaf_move g1) (by exact hsz a1 (by simp))).trans ?_
    have g2 : ev τ (fr.lay a1 (outV h0.nx D.length)) (.tmp tx) = some (ptr (h0.nx + 3 * D.length) 0) := (ev_lay_ne hd.1).trans hm.x
    refine (keysK_lay (v := .agg ⟨g⟩) (h' := h) rfl (by simp only [leafB, g2, ptr, hm.ld, ok1]) (by exact hsz a2 (by simp))).trans ?_
    have g3 : ev τ ((fr.lay a1 (outV h0.nx D.length)).lay a2 (.agg ⟨g⟩)) (.tmp a2) = some (.agg ⟨g⟩) := ev_lay_same
    refine (keysK_lay (v := .slice (some ⟨h.nx, 0, none⟩) 1 1) (h' := h1) rfl (by simp only [leafB, evps, g3]; exact build_one he hg hp h) (by exact hsz a3 (by simp))).trans ?_
    have g4 : evs τ f1 (#[Operand.tmp a1, .tmp a3] : Array Operand).toList = some [outV h0.nx D.length, .slice (some ⟨h.nx, 0, none⟩) 1 1] := by
      have e1 : ev τ f1 (.tmp a1) = some (outV h0.nx D.length) := (ev_lay_ne hd.2.2.1).trans ((ev_lay_ne hd.2.1).trans ev_lay_same)
      have e2 : ev τ f1 (.tmp a3) = some (.slice (some ⟨h.nx, 0, none⟩) 1 1) := ev_lay_same
      show evs τ f1 [.tmp a1, .tmp a3] = _
      simp only [evs, e1, e2]
    refine (keysK_builtin (v := outV h0.nx (D.length + 1)) (h' := h2) g4 hap (by exact hsz a4 (by simp))).trans ?_
    refine (keysK_lay (v := outV h0.nx (D.length + 1)) (h' := h2) rfl (by exact leaf_assign ev_lay_same) (by show tout < fr.sz; rw [hm.sz]; exact ht)).trans ?_
    rfl

/-- A loop that collects a map's entries. -/
theorem collect_ok (T : TabOk P τ) {f : Img} {e tsl : TypeId} {i : TypeInfo} {z : Value} (he : ElemT τ e tsl i z) {W : List Tmp} {tout ti tn c : Tmp} {b b2 j1 : Nat} {A : Array Oper} {body : Code} (hcr : CR P body)
    (hA : A.toList.map keyOf = [(some tn, .next (.tmp ti) false), (some c, .extract (.tmp tn) 0)]) (hAg : (A.toList.all fun o => o.guard.isNone && noDefer o.op) = true) (hWn : tn ∈ W ∧ c ∈ W ∧ ti ∉ W ∧ ti ≠ tout ∧ tout ∉ W)
    (hf : ∀ en g, f en = some g → g.length = i.size ∧ g.all plainCell = true)
    (hbody : ∀ (fr0 : Fr) (h0 : Hp) (hEl : WS) (r m since ck : Nat) (es D : List MapEntry) (en : MapEntry) (g : List Value) (fr : Fr) (h : Hp), ColInv f e W tout fr0 h0 hEl r m since ck es D fr h → r < h0.nx → m < h0.nx → m ≠ r → h0.t.get m = some (.map es ck) → (es.map (·.born)).Nodup →
      en ∈ es → en.born ∉ D.map (·.born) → f en = some g → (∀ t ∈ W, t < fr0.sz) → tout < fr0.sz → fr0.tm.get ti = some (ptr r 0) → 100000 * i.bytes ≤ 1099511627776 → D.length < 100000 → (∀ id, r ≤ id → hEl.has id) → (∀ g gs, imgsC f D = some gs → g ∈ gs → g.length = i.size) →
      ∃ fr2 h2, ColInv f e W tout fr0 h0 hEl r m since ck es (D ++ [en]) fr2 h2 ∧ ∀ K : Kt,
        codeK τ noCall 200000 none body K ((fr.lay tn (.tuple #[.bool true, en.key, en.val])).lay c (.bool true)) (h.put r (.miter (some m) since (D.map (·.born) ++ [en.born]) ck)) = K.n fr2 h2) :
    HookOk P τ (hookCollect τ f e ti tout W) (mapLoopC b b2 j1 A c body) := by
  intro ρ fr0 fr' h0 h' a w st hu K outs hK
  unfold hookCollect at hu
  split at hu
  case h_2 => cases hu
  rename_i r hti hto
  split at hu
  case h_2 => cases hu
  rename_i m since last hr
  split at hu
  case h_2 => cases hu
  rename_i e0 es ck hm
  split at hu
  case h_2 => cases hu
  rename_i gs i' hgs hi'
  rw [he.inf] at hi'; cases hi'
  replace hu := bifO hu; obtain ⟨hch, hu⟩ := hu
  simp only [Option.some.injEq, Prod.mk.injEq] at hu
  obtain ⟨rfl, rfl⟩ := hu
  obtain ⟨hch, q9⟩ := and2 hch
  obtain ⟨hch, q8⟩ := and2 hch
  obtain ⟨hch, q7⟩ := and2 hch
  obtain ⟨hch, q6⟩ := and2 hch
  obtain ⟨hch, q5⟩ := and2 hch
  obtain ⟨hch, q4⟩ := and2 hch
  obtain ⟨hch, q3⟩ := and2 hch
  obtain ⟨q1, q2⟩ := and2 hch
  have q1 := Nat.le_of_ble_eq_true q1
  have q2 := Nat.le_of_ble_eq_true q2
  have q3 := Nat.le_of_ble_eq_true q3
  have q6 : tout < fr0.sz := by simpa [Nat.blt_eq] using q6
  have q7 : r < h0.nx := by simpa [Nat.blt_eq] using q7
  have q8 : m < h0.nx := by simpa [Nat.blt_eq] using q8
  obtain ⟨n1, n2⟩ := asc_spec (e0 :: es) 0 q4
  obtain ⟨s1, s2, s3, s4⟩ := imgsC_spec hgs
  have hrm : m ≠ r := fun hh => by subst hh; rw [hr] at hm; cases hm
  have habs : ∀ t ∈ W, fr0.tm.get t = none ∧ t < fr0.sz := fun t ht => by
    have := List.all_eq_true.1 q5 t ht
    simp only [Bool.and_eq_true] at this
    refine ⟨?_, by have := this.2; rwa [Nat.blt_eq] at this⟩
    cases hg : fr0.tm.get t with
    | none => rfl
    | some x => rw [hg] at this; exact absurd this.1 (by simp)
  let hEl : WS := lowerR (lowerR h0.lo r) h0.nx
  have hcov : ∀ id, r ≤ id → hEl.has id := by
    have key : ∀ s : WS, ∀ id, r ≤ id → (lowerR (lowerR s r) h0.nx).has id := by
      intro s id hid
      have hne : Nat.beq r h0.nx = false := Bool.eq_false_iff.2 fun hh => by have := Nat.eq_of_beq_eq_true hh; omega
      have key2 : ∀ x, x ≤ r → (WS.rest (least x h0.nx)).has id := fun x hx => by
        have := (least_le x h0.nx).1
        show least x h0.nx ≤ id; omega
      cases s with
      | no =>
        show (bif Nat.beq r h0.nx then WS.one r else .rest (least r h0.nx)).has id
        rw [hne]; exact key2 r (Nat.le_refl _)
      | one b =>
        show (lowerR (bif Nat.beq b r then WS.one b else .rest (least b r)) h0.nx).has id
        cases hb : Nat.beq b r with
        | true =>
          have := Nat.eq_of_beq_eq_true hb; subst this
          show (bif Nat.beq b h0.nx then WS.one b else .rest (least b h0.nx)).has id
          rw [hne]; exact key2 b (Nat.le_refl _)
        | false => exact key2 _ (least_le b r).2
      | rest lo => exact key2 _ (least_le lo r).2
      | pair c lo => exact key2 _ (least_le (least c lo) r).2
    exact key h0.lo
  have hn0 : (e0 :: es).length = gs.length := s1.symm
  have hway := map_loop (τ := τ) (call := noCall) (L := 200000) (ro := none) (b := b) (b2 := b2) (i1 := j1) (A := A) (tn := tn) (c := c) (ti := ti) (body := body) (r := r) (m := m) (since := since) (es := e0 :: es) (ck := ck)
    hA hAg n1 (fun e he => (n2 e he).2) (fun e he => by have := (n2 e he).2; omega) (ColInv f e W tout fr0 h0 hEl r m since ck (e0 :: es)) (K0 := endKt)
    (G := fun o => ∃ fr'' h'', o = .frm fr'' h'' ∧ Wk h0 fr'' h'' ⟨fr0.tm.ins tout (.slice (some ⟨h0.nx + 3 * gs.length - 1, 0, none⟩) gs.length gs.length), fr0.sz, fr0.ds⟩ ⟨(h0.t.ins r .dead).ins (h0.nx + 3 * gs.length - 1) (.ucells gs e), h0.nx + 3 * gs.length, hEl⟩)
    ?_ ?_ ?_ (fr := fr0) (h := h0) ?_ (by rw [hn0]; omega)
  · obtain ⟨outs', o1, o2⟩ := hway
    exact hook_ways T (by simp only [mapLoopC, CR]; exact ⟨by simp, ⟨trivial, trivial⟩, hcr⟩) st o1 o2 K outs hK
  · intro D fr h hi
    exact ⟨by rw [hi.tm ti hWn.2.2.1 hWn.2.2.2.1]; exact hti, hi.it, by rw [hi.mem m q8 hrm]; exact hm, by rw [hi.sz]; exact (habs tn hWn.1).2, by rw [hi.sz]; exact (habs c hWn.2.1).2⟩
  · intro D en fr h hi hen hnb
    obtain ⟨g, hg, _⟩ := s2 en hen
    have hDlen : D.length < 100000 := by
      have hsub : D.length + 1 ≤ (e0 :: es).length := by
        have hnd : ((D ++ [en]).map (·.born)).Nodup := (by
          rw [List.map_append, List.nodup_append]
          refine ⟨hi.nodup, by simp, fun a ha b hb hab => ?_⟩
          simp only [List.map_cons, List.map_nil, List.mem_singleton] at hb
          subst hb; subst hab; exact hnb ha)
        have := nodup_len (m := (e0 :: es).map (·.born)) hnd (fun x hx => by
          obtain ⟨y, hy, rfl⟩ := List.mem_map.1 hx
          refine List.mem_map.2 ⟨y, ?_, rfl⟩
          rcases List.mem_append.1 hy with hy | hy
          · exact hi.sub y hy
          · rw [List.mem_singleton.1 hy]; exact hen)
        simpa using this
      omega
    exact hbody fr0 h0 hEl r m since ck (e0 :: es) D en g fr h hi q7 q8 hrm hm n1 hen hnb hg (fun t ht => (habs t ht).2) q6 hti q3 hDlen hcov (fun g gs hgs hg => by
      obtain ⟨_, _, _, s4'⟩ := imgsC_spec hgs
      obtain ⟨e', _, he'⟩ := s4' g hg
      exact (hf e' g he').1)
  · intro D fr h hi hperm
    have hDl : D.length = gs.length := by rw [hperm.length_eq, hn0]
    obtain ⟨gsD, d1, d2⟩ := hi.row
    obtain ⟨_, _, d3, _⟩ := imgsC_spec d1
    have hgp : gsD.Perm gs := by rw [d3, s3]; exact hperm.filterMap f
    have hDne : D ≠ [] := fun hh => by rw [hh] at hDl; rw [← hDl] at hn0; simp at hn0
    refine ⟨_, rfl, fun o ho => ?_⟩
    obtain rfl := List.mem_singleton.1 ho
    have hpos : 0 < gs.length := by rw [← hn0]; simp
    refine ⟨_, h, rfl, hi.sz.symm, hi.ds.symm, fun t u hu => ?_, ?_, hi.lo, fun id hb hidn hg => ?_, ?_, ?_, fun id hid hno => ?_⟩
    · have hu : (fr0.tm.ins tout _).get t = some u := hu
      rw [Ev.T.get_ins] at hu
      by_cases ht : t = tout
      · rw [if_pos ht] at hu; cases hu; subst ht
        have h1 : t ≠ tn := fun hh => hWn.2.2.2.2 (hh ▸ hWn.1)
        have h2 : t ≠ c := fun hh => hWn.2.2.2.2 (hh ▸ hWn.2.1)
        rw [Fr.lay_get, if_neg h2, Fr.lay_get, if_neg h1, hi.out, hDl]
        obtain ⟨k, hk⟩ : ∃ k, gs.length = k + 1 := ⟨gs.length - 1, by omega⟩
        rw [hk]; rfl
      · rw [if_neg ht] at hu
        have htW : t ∉ W := fun hh => by rw [(habs t hh).1] at hu; cases hu
        have h1 : t ≠ tn := fun hh => htW (hh ▸ hWn.1)
        have h2 : t ≠ c := fun hh => htW (hh ▸ hWn.2.1)
        rw [Fr.lay_get, if_neg h2, Fr.lay_get, if_neg h1, hi.tm t htW ht]; exact hu
    · show h0.nx + 3 * gs.length = h.nx
      rw [hi.nx, hDl]
    · have hg : ((h0.t.ins r .dead).ins (h0.nx + 3 * gs.length - 1) (.ucells gs e)).get id = some hb := hg
      rw [Ev.T.get_ins] at hg
      by_cases h1 : id = h0.nx + 3 * gs.length - 1
      · rw [if_pos h1] at hg; cases hg
        refine ⟨_, by rw [h1, ← hDl]; exact d2 hDne, .ucells (gs' := gsD) ?_ hgp rfl fun j v hv => ?_⟩
        · refine List.all_eq_true.2 fun g hg => ?_
          obtain ⟨e', _, he'⟩ := s4 g hg
          exact (hf e' g he').2
        · rw [Ev.T.get_laid]
          have := (List.getElem?_eq_some_iff.1 hv).1
          rw [if_pos (by omega)]; simpa using hv
      · rw [if_neg h1, Ev.T.get_ins] at hg
        by_cases h2 : id = r
        · rw [if_pos h2] at hg; cases hg; subst h2
          obtain ⟨last', i1, _⟩ := hi.it
          exact ⟨_, i1, .dead _⟩
        · rw [if_neg h2] at hg
          have hlt : id < h0.nx := Nat.lt_of_not_le fun hh => by
            have hidn : id < h0.nx + 3 * gs.length := hidn
            rw [none_spec _ _ q9 id hh hidn] at hg; cases hg
          exact ⟨hb, by rw [hi.mem id hlt h2]; exact hg, .same _⟩
    · show h0.nx ≤ h0.nx + 3 * gs.length; omega
    · exact WS.le_trans (lowerR_le _ _).1 (lowerR_le _ _).1
    · show ((h0.t.ins r .dead).ins _ _).get id = _
      have hid : id < h0.nx := hid
      have hno : ¬ hEl.has id := hno
      rw [Ev.T.get_ins_ne _ _ (by omega), Ev.T.get_ins_ne _ _ (fun hh => hno (hcov id (by omega)))]
  · refine ⟨rfl, rfl, fun _ _ _ => rfl, hto, rfl, WS.le_trans (lowerR_le _ _).1 (lowerR_le _ _).1, fun e he => (by cases he), by simp, ⟨last, hr, .inl rfl⟩, ⟨[], rfl, fun hh => absurd rfl hh⟩, fun _ _ _ => rfl⟩
end
end Go.Ev
end

section
/-
  The collecting loops of words.Nodes and entry.Sort.
-/
namespace Go.Ev
section
variable {P : Program} {τ : Tab} {ro : Option Nat}

/-- A new struct, stored. -/
theorem alloc_zero {e tsl : TypeId} {i : TypeInfo} {z : Value} (he : ElemT τ e tsl i z) (fr : Fr) (h : Hp) : leafB τ fr h (.alloc e) = some (ptr h.nx 0, rowOf h e (cellsOfV z)) := by
  simp only [leafB, he.zv, boxB]
theorem store_new {e tsl : TypeId} {i : TypeInfo} {z : Value} (he : ElemT τ e tsl i z) {g : List Value} (hg : g.length = i.size) (hp : g.all plainCell = true) (h : Hp) :
    storeAtB τ e (rowOf h e (cellsOfV z)) h.nx 0 (.agg ⟨g⟩) = some ((rowOf h e (cellsOfV z)).put h.nx (.cells (T.laid g 0 (T.laid (cellsOfV z) 0 .nil)) (cellsOfV z).length e 0 0 true)) := by
  have c1 : Nat.beq (cellsOfV (.agg ⟨g⟩)).length i.size = true := by show Nat.beq g.length i.size = true; rw [hg]; simp
  have c2 : (rowOf h e (cellsOfV z)).t.get h.nx = some (.cells (T.laid (cellsOfV z) 0 .nil) (cellsOfV z).length e 0 0 true) := T.get_ins_same _ _ _
  have c3 : (free (cellsOfV z).length 0 0 0 (cellsOfV (.agg ⟨g⟩)).length && (cellsOfV (.agg ⟨g⟩)).all one) = true := by
    have h1 : Nat.ble (0 + g.length) (cellsOfV z).length = true := Nat.ble_eq_true_of_le (by rw [he.zl, hg]; omega)
    have h2 : g.all one = true := plain_one hp
    show (free (cellsOfV z).length 0 0 0 g.length && g.all one) = true
    rw [h2]
    simp only [free, h1]
    rfl
  simp only [storeAtB, he.inf, c1, cond_true, storeB, c2, c3]
  rfl
theorem load_laid {e tsl : TypeId} {i : TypeInfo} {z : Value} (he : ElemT τ e tsl i z) {h : Hp} {id n lo hi : Nat} {x : Bool} {e' : TypeId} {c : T Value} {g : List Value} (hg : g.length = i.size) (hc : ∀ (j : Nat) v, g[j]? = some v → c.get j = some v)
    (hh : h.t.get id = some (.cells c n e' lo hi x)) : loadAtB τ e h id 0 = some (.agg ⟨g⟩) := by
  obtain ⟨fs, hfs⟩ := he.ds
  have hgt : gather c i.size 0 = some g := by
    rw [← hg]; exact gather_all g 0 fun j v hv => by rw [Nat.zero_add]; exact hc j v hv
  simp only [loadAtB, hh, hfs, isAggD, cond_true, he.inf, hgt]

structure NodesLoop (A1 A2 A3 : Array Oper) (e tsl : TypeId) : Prop where
  a1 : A1.toList.map keyOf = [(some 148, .next (.tmp 147) false), (some 149, .extract (.tmp 148) 0)]
  g1 : (A1.toList.all fun o => o.guard.isNone && noDefer o.op) = true
  a2 : A2.toList.map keyOf = [(some 150, .entry (.tmp 147)), (some 151, .extract (.tmp 150) 1), (some 24, .alloc e), (none, .store e (.tmp 24) (.tmp 151))]
  g2 : (A2.toList.all fun o => o.guard.isNone && noDefer o.op) = true
  a3 : A3.toList.map keyOf = [(some 152, .move (.tmp 22)), (some 153, .load e (.tmp 24)), (some 154, .buildSlice tsl 1 #[(0, .tmp 153)]), (some 155, .call ⟨.builtin .append, #[.tmp 152, .tmp 154], #[tsl, tsl]⟩), (some 22, .assign (.tmp 155))]
  g3 : (A3.toList.all fun o => o.guard.isNone && noDefer o.op) = true
abbrev WNodes : List Tmp := [148, 149, 150, 151, 24, 152, 153, 154, 155]

theorem imgVal_spec {k : Nat} {en : MapEntry} {g : List Value} (h : imgVal k en = some g) : en.val = .agg ⟨g⟩ ∧ g.length = k ∧ g.all plainCell = true := by
  unfold imgVal at h
  split at h
  case h_2 => cases h
  rename_i cs hv
  replace h := bifO h; obtain ⟨hc, h⟩ := h
  simp only [Option.some.injEq] at h; subst h
  obtain ⟨h1, h2⟩ := and2 hc
  exact ⟨hv, Nat.eq_of_beq_eq_true h1, h2⟩

theorem hookNodes_ok (T : TabOk P τ) {b b2 j1 j2 j3 : Nat} {A1 A2 A3 : Array Oper} {e tsl : TypeId} {i : TypeInfo} {z : Value} (hl : NodesLoop A1 A2 A3 e tsl) (he : ElemT τ e tsl i z) :
    HookOk P τ (hookCollect τ (imgVal i.size) e 147 22 WNodes) (mapLoopC b b2 j1 A1 149 (.seq (.region j2 A2 false) (.region j3 A3 false))) := by
  refine collect_ok T he (W := WNodes) (by simp [CR]) hl.a1 hl.g1 (by decide) (fun en g hg => (imgVal_spec hg).2) ?_
  intro fr0 h0 hEl r m since ck es D en g fr h hi hr hm hrm hes hnd hen hnb hg hsz htout hti hb hn hcov hall
  obtain ⟨v1, v2, v3⟩ := imgVal_spec hg
  have hm0 : h.t.get m = some (.map es ck) := by rw [hi.mem m hm hrm]; exact hes
  let h1 : Hp := h.put r (.miter (some m) since (D.map (·.born) ++ [en.born]) ck)
  have h1r : h1.t.get r = some (.miter (some m) since (D.map (·.born) ++ [en.born]) ck) := Ev.T.get_ins_same _ _ _
  have h1m : h1.t.get m = some (.map es ck) := by
    show (h.t.ins r _).get m = _
    rw [Ev.T.get_ins_ne _ _ hrm]; exact hm0
  have hent := entry_at (D := D) (e := en) h1r h1m hnd hen
  rw [v1] at hent
  have h1nx : h1.nx = h0.nx + 3 * D.length := hi.nx
  let h2 : Hp := (rowOf h1 e (cellsOfV z)).put h1.nx (.cells (Ev.T.laid g 0 (Ev.T.laid (cellsOfV z) 0 .nil)) (cellsOfV z).length e 0 0 true)
  let f1 : Fr := (fr.lay 148 (.tuple #[.bool true, en.key, en.val])).lay 149 (.bool true)
  let f2 : Fr := ((f1.lay 150 (.tuple #[en.key, .agg ⟨g⟩])).lay 151 (.agg ⟨g⟩)).lay 24 (ptr h1.nx 0)
  have hmid : ColMid τ (imgVal i.size) e WNodes 22 24 fr0 h0 hEl r m since ck es D en g f2 h2 := by
    have hget : ∀ id, id ≠ h1.nx → h2.t.get id = h1.t.get id := fun id hid => by
      show (((h1.t.ins h1.nx _)).ins h1.nx _).get id = _
      rw [Ev.T.get_ins_ne _ _ hid, Ev.T.get_ins_ne _ _ hid]
    refine ⟨hi.sz, hi.ds, fun t ht1 ht2 => ?_, ?_, ?_, ?_, ?_, ?_, ?_, ?_, fun id hid hir => ?_⟩
    · rw [← hi.tm t ht1 ht2]
      simp only [List.mem_cons, not_or, List.not_mem_nil, not_false_eq_true, and_true] at ht1
      obtain ⟨t1, t2, t3, t4, t5, _⟩ := ht1
      simp only [f2, f1, Fr.lay_get, if_neg t1, if_neg t2, if_neg t3, if_neg t4, if_neg t5]
    · simp only [f2, f1, Fr.lay_get]; exact hi.out
    · simp only [f2, Fr.lay_get, if_true]; rw [h1nx]
    · rw [← h1nx]
      refine load_laid he v2 (c := Ev.T.laid g 0 (Ev.T.laid (cellsOfV z) 0 .nil)) (fun j v hv => ?_) (Ev.T.get_ins_same _ _ _)
      rw [Ev.T.get_laid]
      have := (List.getElem?_eq_some_iff.1 hv).1
      rw [if_pos (by omega)]; simpa using hv
    · show h1.nx + 1 = _; rw [h1nx]
    · exact lower_cover (lower_cover hi.lo (hcov r (Nat.le_refl _))) (hcov _ (by rw [h1nx]; omega))
    · rw [hget r (by rw [h1nx]; omega)]; exact h1r
    · obtain ⟨gs, q1, q2⟩ := hi.row
      refine ⟨gs, q1, fun hne => ?_⟩
      have hpos : 0 < D.length := List.length_pos_iff.2 hne
      rw [hget _ (by rw [h1nx]; omega)]
      show (h.t.ins r _).get _ = _
      rw [Ev.T.get_ins_ne _ _ (by omega)]; exact q2 hne
    · rw [hget id (by rw [h1nx]; omega)]
      show (h.t.ins r _).get _ = _
      rw [Ev.T.get_ins_ne _ _ hir]; exact hi.mem id hid hir
  obtain ⟨fr2, h3, e1, e2⟩ := collect_last he hmid hg v2 v3 hall hi.sub hen hi.nodup hnb hb hn hr hcov (a1 := 152) (a2 := 153) (a3 := 154) (a4 := 155) (fun t ht => by
    simp only [List.mem_cons, List.not_mem_nil, or_false] at ht
    have : t ∈ WNodes := by rcases ht with rfl | rfl | rfl | rfl <;> decide
    exact ⟨this, hsz t this⟩) htout (by decide) hl.a3 hl.g3 (j := j3) (L := 200000)
  refine ⟨fr2, h3, e1, fun K => ?_⟩
  rw [← e2 K]
  show codeK τ noCall 200000 none (.region j2 A2 false) { n := fun fr h => codeK τ noCall 200000 none (.region j3 A3 false) K fr h, x := K.x, r := K.r, p := K.p } f1 h1 = _
  rw [codeK_region hl.g2, hl.a2]
  have hs : ∀ t ∈ WNodes, t < fr.sz := fun t ht => by rw [hi.sz]; exact hsz t ht
  have g20 : ev τ f1 (.tmp 147) = some (ptr r 0) := by
    refine (ev_lay_ne (by decide)).trans ((ev_lay_ne (by decide)).trans ?_)
    show fr.tm.get 147 = _
    rw [hi.tm 147 (by decide) (by decide)]; exact hti
  refine (keysK_lay (v := .tuple #[en.key, .agg ⟨g⟩]) rfl (by simp only [leafB, g20, hent]; rfl) (by exact hs 150 (by decide))).trans ?_
  refine (keysK_lay (v := .agg ⟨g⟩) rfl (by exact leaf_extract (vs := [en.key, .agg ⟨g⟩]) ev_lay_same rfl) (by exact hs 151 (by decide))).trans ?_
  refine (keysK_lay (v := ptr h1.nx 0) (h' := rowOf h1 e (cellsOfV z)) rfl (by exact alloc_zero he _ _) (by exact hs 24 (by decide))).trans ?_
  refine (keysK_none (v := .tuple #[]) (h' := h2) rfl (by
    have q1 : ev τ f2 (.tmp 24) = some (ptr h1.nx 0) := ev_lay_same
    have q2 : ev τ f2 (.tmp 151) = some (.agg ⟨g⟩) := (ev_lay_ne (by decide)).trans ev_lay_same
    show leafB τ f2 _ _ = _
    simp only [leafB, q1, q2, ptr, store_new he v2 v3, okU]; rfl)).trans ?_
  rfl

structure SortLoop (τ : Tab) (A1 A2 A3 A4 : Array Oper) (e tsl tc : TypeId) (off : Nat) : Prop where
  a1 : A1.toList.map keyOf = [(some 42, .next (.tmp 41) false), (some 43, .extract (.tmp 42) 0)]
  g1 : (A1.toList.all fun o => o.guard.isNone && noDefer o.op) = true
  a2 : A2.toList.map keyOf = [(some 44, .entry (.tmp 41)), (some 45, .extract (.tmp 44) 0), (some 46, .extract (.tmp 44) 1), (some 10, .alloc e), (none, .store e (.tmp 10) (.tmp 45)), (some 11, .assign (.tmp 46))]
  g2 : (A2.toList.all fun o => o.guard.isNone && noDefer o.op) = true
  a3 : A3.toList.map keyOf = [(some 47, .move (.tmp 11)), (some 48, .fieldAddr e (.tmp 10) 4), (none, .store tc (.tmp 48) (.tmp 47))]
  g3 : (A3.toList.all fun o => o.guard.isNone && noDefer o.op) = true
  a4 : A4.toList.map keyOf = [(some 49, .move (.tmp 9)), (some 50, .load e (.tmp 10)), (some 51, .buildSlice tsl 1 #[(0, .tmp 50)]), (some 52, .call ⟨.builtin .append, #[.tmp 49, .tmp 51], #[tsl, tsl]⟩), (some 9, .assign (.tmp 52))]
  g4 : (A4.toList.all fun o => o.guard.isNone && noDefer o.op) = true
  fl : ∃ fs fl i2, τ.ds.get e = some (.struct fs) ∧ fs.toList[4]? = some fl ∧ τ.inf.get fl.type = some i2 ∧ i2.size ≠ 0 ∧ fl.offset = off
  tc : ∃ ic, τ.inf.get tc = some ic ∧ ic.size = 1
abbrev WSort : List Tmp := [42, 43, 44, 45, 46, 10, 11, 47, 48, 49, 50, 51, 52]

theorem imgKey_spec {k off : Nat} {en : MapEntry} {g : List Value} (h : imgKey k off en = some g) : ∃ cs, en.key = .agg ⟨cs⟩ ∧ cs.length = k ∧ cs.all plainCell = true ∧ off < k ∧ plainCell en.val = true ∧ g = cs.set off en.val := by
  unfold imgKey at h
  split at h
  case h_2 => cases h
  rename_i cs hv
  replace h := bifO h; obtain ⟨hc, h⟩ := h
  simp only [Option.some.injEq] at h; subst h
  obtain ⟨hc, h4⟩ := and2 hc
  obtain ⟨hc, h3⟩ := and2 hc
  obtain ⟨h1, h2⟩ := and2 hc
  exact ⟨cs, hv, Nat.eq_of_beq_eq_true h1, h2, by rwa [Nat.blt_eq] at h3, h4, rfl⟩
theorem imgKey_good {k off : Nat} {en : MapEntry} {g : List Value} (h : imgKey k off en = some g) : g.length = k ∧ g.all plainCell = true := by
  obtain ⟨cs, h1, h2, h3, h4, h5, rfl⟩ := imgKey_spec h
  refine ⟨by rw [List.length_set]; exact h2, List.all_eq_true.2 fun v hv => ?_⟩
  rcases List.mem_or_eq_of_mem_set hv with hv | rfl
  · exact List.all_eq_true.1 h3 v hv
  · exact h5
theorem cells_plain {v : Value} (h : plainCell v = true) : cellsOfV v = [v] ∧ one v = true := by
  unfold plainCell at h
  split at h <;> first
    | exact ⟨rfl, rfl⟩
    | cases h

theorem hookSort_ok (T : TabOk P τ) {b b2 j1 j2 j3 j4 : Nat} {A1 A2 A3 A4 : Array Oper} {e tsl tc : TypeId} {off : Nat} {i : TypeInfo} {z : Value} (hl : SortLoop τ A1 A2 A3 A4 e tsl tc off) (he : ElemT τ e tsl i z) :
    HookOk P τ (hookCollect τ (imgKey i.size off) e 41 9 WSort) (mapLoopC b b2 j1 A1 43 (.seq (.region j2 A2 false) (.seq (.region j3 A3 false) (.region j4 A4 false)))) := by
  refine collect_ok T he (W := WSort) (by simp [CR]) hl.a1 hl.g1 (by decide) (fun en g hg => imgKey_good hg) ?_
  intro fr0 h0 hEl r m since ck es D en g fr h hi hr hm hrm hes hnd hen hnb hg hsz htout hti hb hn hcov hall
  obtain ⟨cs, v1, v2, v3, v4, v5, v6⟩ := imgKey_spec hg
  obtain ⟨w1, w2⟩ := imgKey_good hg
  have hm0 : h.t.get m = some (.map es ck) := by rw [hi.mem m hm hrm]; exact hes
  let h1 : Hp := h.put r (.miter (some m) since (D.map (·.born) ++ [en.born]) ck)
  have h1r : h1.t.get r = some (.miter (some m) since (D.map (·.born) ++ [en.born]) ck) := Ev.T.get_ins_same _ _ _
  have h1m : h1.t.get m = some (.map es ck) := by
    show (h.t.ins r _).get m = _
    rw [Ev.T.get_ins_ne _ _ hrm]; exact hm0
  have hent := entry_at (D := D) (e := en) h1r h1m hnd hen
  rw [v1] at hent
  have h1nx : h1.nx = h0.nx + 3 * D.length := hi.nx
  let h2 : Hp := (rowOf h1 e (cellsOfV z)).put h1.nx (.cells (Ev.T.laid cs 0 (Ev.T.laid (cellsOfV z) 0 .nil)) (cellsOfV z).length e 0 0 true)
  have h2c : h2.t.get h1.nx = some (.cells (Ev.T.laid cs 0 (Ev.T.laid (cellsOfV z) 0 .nil)) (cellsOfV z).length e 0 0 true) := Ev.T.get_ins_same _ _ _
  let h3 : Hp := h2.put h1.nx (.cells (Ev.T.laid [en.val] off (Ev.T.laid cs 0 (Ev.T.laid (cellsOfV z) 0 .nil))) (cellsOfV z).length e 0 0 true)
  obtain ⟨fs, fl, i2, f1', f2', f3', f4', f5'⟩ := hl.fl
  obtain ⟨ic, c1', c2'⟩ := hl.tc
  obtain ⟨p1, p2⟩ := cells_plain v5
  let f1 : Fr := (fr.lay 42 (.tuple #[.bool true, en.key, en.val])).lay 43 (.bool true)
  let f2 : Fr := ((((f1.lay 44 (.tuple #[.agg ⟨cs⟩, en.val])).lay 45 (.agg ⟨cs⟩)).lay 46 en.val).lay 10 (ptr h1.nx 0)).lay 11 en.val
  let fA : Fr := (((f1.lay 44 (.tuple #[.agg ⟨cs⟩, en.val])).lay 45 (.agg ⟨cs⟩)).lay 46 en.val).lay 10 (ptr h1.nx 0)
  let fB : Fr := f2.lay 47 en.val
  let f3 : Fr := (f2.lay 47 en.val).lay 48 (ptr h1.nx (0 + fl.offset))
  have hmid : ColMid τ (imgKey i.size off) e WSort 9 10 fr0 h0 hEl r m since ck es D en g f3 h3 := by
    have hget : ∀ id, id ≠ h1.nx → h3.t.get id = h1.t.get id := fun id hid => by
      show ((((h1.t.ins h1.nx _)).ins h1.nx _).ins h1.nx _).get id = _
      rw [Ev.T.get_ins_ne _ _ hid, Ev.T.get_ins_ne _ _ hid, Ev.T.get_ins_ne _ _ hid]
    refine ⟨hi.sz, hi.ds, fun t ht1 ht2 => ?_, ?_, ?_, ?_, ?_, ?_, ?_, ?_, fun id hid hir => ?_⟩
    · rw [← hi.tm t ht1 ht2]
      simp only [List.mem_cons, not_or, List.not_mem_nil, not_false_eq_true, and_true] at ht1
      obtain ⟨t1, t2, t3, t4, t5, t6, t7, t8, t9, _⟩ := ht1
      simp only [f3, f2, f1, Fr.lay_get, if_neg t1, if_neg t2, if_neg t3, if_neg t4, if_neg t5, if_neg t6, if_neg t7, if_neg t8, if_neg t9]
    · simp only [f3, f2, f1, Fr.lay_get]; exact hi.out
    · simp only [f3, f2, Fr.lay_get]; rw [← h1nx]; rfl
    · rw [← h1nx]
      refine load_laid he w1 (c := Ev.T.laid [en.val] off (Ev.T.laid cs 0 (Ev.T.laid (cellsOfV z) 0 .nil))) (fun j v hv => ?_) (Ev.T.get_ins_same _ _ _)
      rw [Ev.T.get_laid]
      rw [v6] at hv
      have hj := (List.getElem?_eq_some_iff.1 hv).1
      rw [List.length_set] at hj
      by_cases hjo : j = off
      · subst hjo
        rw [if_pos (by simp)]
        rw [List.getElem?_set_self (by omega)] at hv
        simpa using hv
      · rw [if_neg (by simp; omega), Ev.T.get_laid, if_pos (by omega)]
        rw [List.getElem?_set_ne (fun hh => hjo hh.symm)] at hv
        simpa using hv
    · show h1.nx + 1 = _; rw [h1nx]
    · exact lower_cover (lower_cover (lower_cover hi.lo (hcov r (Nat.le_refl _))) (hcov _ (by rw [h1nx]; omega))) (hcov _ (by rw [h1nx]; omega))
    · rw [hget r (by rw [h1nx]; omega)]; exact h1r
    · obtain ⟨gs, q1, q2⟩ := hi.row
      refine ⟨gs, q1, fun hne => ?_⟩
      have hpos : 0 < D.length := List.length_pos_iff.2 hne
      rw [hget _ (by rw [h1nx]; omega)]
      show (h.t.ins r _).get _ = _
      rw [Ev.T.get_ins_ne _ _ (by omega)]; exact q2 hne
    · rw [hget id (by rw [h1nx]; omega)]
      show (h.t.ins r _).get _ = _
      rw [Ev.T.get_ins_ne _ _ hir]; exact hi.mem id hid hir
  obtain ⟨fr2, h4, e1, e2⟩ := collect_last he hmid hg w1 w2 hall hi.sub hen hi.nodup hnb hb hn hr hcov (a1 := 49) (a2 := 50) (a3 := 51) (a4 := 52) (fun t ht => by
    simp only [List.mem_cons, List.not_mem_nil, or_false] at ht
    have : t ∈ WSort := by rcases ht with rfl | rfl | rfl | rfl <;> decide
    exact ⟨this, hsz t this⟩) htout (by decide) hl.a4 hl.g4 (j := j4) (L := 200000)
  refine ⟨fr2, h4, e1, fun K => ?_⟩
  rw [← e2 K]
  show codeK τ noCall 200000 none (.region j2 A2 false) { n := fun fr h => codeK τ noCall 200000 none (.seq (.region j3 A3 false) (.region j4 A4 false)) K fr h, x := K.x, r := K.r, p := K.p } f1 h1 = _
  rw [codeK_region hl.g2, hl.a2]
  have hs : ∀ t ∈ WSort, t < fr.sz := fun t ht => by rw [hi.sz]; exact hsz t ht
  have g20 : ev τ f1 (.tmp 41) = some (ptr r 0) := by
    refine (ev_lay_ne (by decide)).trans ((ev_lay_ne (by decide)).trans ?_)
    show fr.tm.get 41 = _
    rw [hi.tm 41 (by decide) (by decide)]; exact hti
  refine (keysK_lay (v := .tuple #[.agg ⟨cs⟩, en.val]) rfl (by simp only [leafB, g20, hent]; rfl) (by exact hs 44 (by decide))).trans ?_
  refine (keysK_lay (v := .agg ⟨cs⟩) rfl (by exact leaf_extract (vs := [.agg ⟨cs⟩, en.val]) ev_lay_same rfl) (by exact hs 45 (by decide))).trans ?_
  refine (keysK_lay (v := en.val) rfl (by exact leaf_extract (vs := [.agg ⟨cs⟩, en.val]) ((ev_lay_ne (by decide)).trans ev_lay_same) rfl) (by exact hs 46 (by decide))).trans ?_
  refine (keysK_lay (v := ptr h1.nx 0) (h' := rowOf h1 e (cellsOfV z)) rfl (by exact alloc_zero he _ _) (by exact hs 10 (by decide))).trans ?_
  refine (keysK_none (v := .tuple #[]) (h' := h2) rfl (by
    have q1 : ev τ fA (.tmp 10) = some (ptr h1.nx 0) := ev_lay_same
    have q2 : ev τ fA (.tmp 45) = some (.agg ⟨cs⟩) := (ev_lay_ne (by decide)).trans ((ev_lay_ne (by decide)).trans ev_lay_same)
    show leafB τ fA _ _ = _
    simp only [leafB, q1, q2, ptr, store_new he v2 v3, okU]; rfl)).trans ?_
  refine (keysK_lay (v := en.val) (h' := h2) rfl (by exact leaf_assign ((ev_lay_ne (by decide)).trans ev_lay_same)) (by exact hs 11 (by decide))).trans ?_
  show codeK τ noCall 200000 none (.region j3 A3 false) { n := fun fr h => codeK τ noCall 200000 none (.region j4 A4 false) K fr h, x := K.x, r := K.r, p := K.p } f2 h2 = _
  rw [codeK_region hl.g3, hl.a3]
  refine (keysK_lay (v := en.val) (h' := h2) rfl (by exact leaf_move ev_lay_same) (by exact hs 47 (by decide))).trans ?_
  refine (keysK_lay (v := ptr h1.nx (0 + fl.offset)) (h' := h2) rfl (by
    have q1 : ev τ fB (.tmp 10) = some (ptr h1.nx 0) := (ev_lay_ne (by decide)).trans ((ev_lay_ne (by decide)).trans ev_lay_same)
    have q2 : Nat.beq i2.size 0 = false := Bool.eq_false_iff.2 fun hh => f4' (Nat.eq_of_beq_eq_true hh)
    show leafB τ fB h2 _ = _
    simp only [leafB, q1, ptr, fieldAddrB, f1', f2', f3', q2, cond_false, ok1]) (by exact hs 48 (by decide))).trans ?_
  refine (keysK_none (v := .tuple #[]) (h' := h3) rfl (by
    have q1 : ev τ f3 (.tmp 48) = some (ptr h1.nx (0 + fl.offset)) := ev_lay_same
    have q2 : ev τ f3 (.tmp 47) = some en.val := (ev_lay_ne (by decide)).trans ev_lay_same
    have q3 : Nat.beq (cellsOfV en.val).length ic.size = true := by rw [p1, c2']; rfl
    have q4 : (free (cellsOfV z).length 0 0 (0 + fl.offset) (cellsOfV en.val).length && (cellsOfV en.val).all one) = true := by
      rw [p1]
      have h1 : Nat.ble (0 + fl.offset + 1) (cellsOfV z).length = true := Nat.ble_eq_true_of_le (by rw [he.zl]; omega)
      show (free (cellsOfV z).length 0 0 (0 + fl.offset) 1 && [en.val].all one) = true
      have h2 : [en.val].all one = true := by simp [p2]
      rw [h2]
      simp only [free, h1]
      rfl
    show leafB τ f3 h2 _ = _
    simp only [leafB, q1, q2, ptr, storeAtB, c1', q3, cond_true, storeB, h2c, q4, okU]
    rw [p1, Nat.zero_add, f5'])).trans ?_
  rfl
end
end Go.Ev
end

section
/-
  strings.Map's look at the builder's capacity.
-/
namespace Go.Ev
/-- Nothing is summed up. -/
noncomputable def S0 : Sums := ⟨fun _ => none, fun _ => none, fun _ => none, fun _ => none⟩
section
variable {P : Program} {τ : Tab}

structure CapFn (τ : Tab) (fc : FuncId) (fn : Func) (A0 A1 : Array Oper) (ts tsl t3 : TypeId) (o : Nat) : Prop where
  get : τ.fn.get fc = some fn
  body : ∃ i0 i1, fn.body = some (.seq (.region i0 A0 false) (.seq (.region i1 A1 false) .ret))
  nt : fn.ntmps = 8
  rs : fn.results.toList = [.tmp 2]
  a0 : A0.toList.map keyOf = [(some 2, .assign (.const (.int .i64 0)))]
  g0 : (A0.toList.all fun o => o.guard.isNone && noDefer o.op) = true
  a1 : A1.toList.map keyOf = [(some 3, .move (.tmp 0)), (some 4, .nilCheck (.tmp 3)), (some 5, .fieldAddr ts (.tmp 4) 1), (some 6, .load tsl (.tmp 5)), (some 7, .call ⟨.builtin .cap, #[.tmp 6], #[tsl]⟩), (some 2, .assign (.tmp 7))]
  g1 : (A1.toList.all fun o => o.guard.isNone && noDefer o.op) = true
  fl : ∃ fs fl i2, τ.ds.get ts = some (.struct fs) ∧ fs.toList[1]? = some fl ∧ τ.inf.get fl.type = some i2 ∧ i2.size ≠ 0 ∧ fl.offset = o
  sl : ∃ e, τ.ds.get tsl = some (.slice e)

theorem cap_call {fc : FuncId} {fn : Func} {A0 A1 : Array Oper} {ts tsl t3 : TypeId} {o : Nat} (hf : CapFn τ fc fn A0 A1 ts tsl t3 o) {h : Hp} {id n lo hi : Nat} {c : T Value} {e : TypeId} {x : Bool} {v : Value} {cp : Nat}
    (hb : h.t.get id = some (.cells c n e lo hi x)) (hv : c.get o = some v) (hc : v = .slice none 0 cp ∨ ∃ b f len, v = .slice (some ⟨b, f, some 0⟩) len cp) (L m : Nat) (k kp : Value → Hp → RR) :
    funK τ S0 L (m + 1) (.func fc) [ptr id 0] h k kp = k (.int .i64 (Int.ofNat cp)) h := by
  obtain ⟨i0, i1, hbody⟩ := hf.body
  obtain ⟨fs, fl, i2, f1, f2, f3, f4, f5⟩ := hf.fl
  obtain ⟨te, hsl⟩ := hf.sl
  have hfr : frame0 [ptr id 0] fn.ntmps = some ⟨T.laid [ptr id 0] 0 .nil, 8, []⟩ := by rw [hf.nt]; rfl
  have h0 : funK τ S0 L (m + 1) (.func fc) [ptr id 0] h k kp = funBody τ S0 (funK τ S0 L m) L fc [ptr id 0] h k kp := rfl
  rw [h0]
  unfold funBody
  simp only [hf.get, hbody, hfr]
  let f0 : Fr := ⟨T.laid [ptr id 0] 0 .nil, 8, []⟩
  have e0 : ev τ f0 (.tmp 0) = some (ptr id 0) := by
    show (T.laid [ptr id 0] 0 .nil).get 0 = _
    rw [T.get_laid]; rfl
  generalize hKt : (Kt.mk _ _ _ _ : Kt) = Kx
  have hr : Kx.r = fun fr h => endK τ S0.dv fn.results.toList fr k fr.ds h := by rw [← hKt]
  show codeK τ (funK τ S0 L m) L none (.region i0 A0 false) { n := fun fr h => codeK τ (funK τ S0 L m) L none (.seq (.region i1 A1 false) .ret) Kx fr h, x := Kx.x, r := Kx.r, p := Kx.p } f0 h = _
  rw [codeK_region hf.g0, hf.a0]
  refine (keysK_lay (v := .int .i64 0) (h' := h) rfl (by exact leaf_assign rfl) (show 2 < 8 by decide)).trans ?_
  let g0 : Fr := f0.lay 2 (.int .i64 0)
  show codeK τ (funK τ S0 L m) L none (.region i1 A1 false) { n := fun fr h => codeK τ (funK τ S0 L m) L none .ret Kx fr h, x := Kx.x, r := Kx.r, p := Kx.p } g0 h = _
  rw [codeK_region hf.g1, hf.a1]
  refine (keysK_lay (v := ptr id 0) (h' := h) rfl (by exact leaf_move ((ev_lay_ne (by decide)).trans e0)) (show 3 < 8 by decide)).trans ?_
  let g1 : Fr := g0.lay 3 (ptr id 0)
  refine (keysK_lay (v := ptr id 0) (h' := h) rfl (by
    have q : ev τ g1 (.tmp 3) = some (ptr id 0) := ev_lay_same
    show leafB τ g1 h _ = _
    simp only [leafB, q, ptr]) (show 4 < 8 by decide)).trans ?_
  let g2 : Fr := g1.lay 4 (ptr id 0)
  refine (keysK_lay (v := ptr id (0 + fl.offset)) (h' := h) rfl (by
    have q1 : ev τ g2 (.tmp 4) = some (ptr id 0) := ev_lay_same
    have q2 : Nat.beq i2.size 0 = false := Bool.eq_false_iff.2 fun hh => f4 (Nat.eq_of_beq_eq_true hh)
    show leafB τ g2 h _ = _
    simp only [leafB, q1, ptr, fieldAddrB, f1, f2, f3, q2, cond_false, ok1]) (show 5 < 8 by decide)).trans ?_
  let g3 : Fr := g2.lay 5 (ptr id (0 + fl.offset))
  refine (keysK_lay (v := v) (h' := h) rfl (by
    have q1 : ev τ g3 (.tmp 5) = some (ptr id (0 + fl.offset)) := ev_lay_same
    have q2 : loadAtB τ tsl h id (0 + fl.offset) = some v := by
      simp only [loadAtB, hb, hsl, isAggD, cond_false]
      rw [Nat.zero_add, f5]; exact hv
    show leafB τ g3 h _ = _
    simp only [leafB, q1, ptr, q2, ok1]) (show 6 < 8 by decide)).trans ?_
  let g4 : Fr := g3.lay 6 v
  refine (keysK_builtin (vs := [v]) (v := .int .i64 (Int.ofNat cp)) (h' := h) (by
    have q1 : ev τ g4 (.tmp 6) = some v := ev_lay_same
    show evs τ g4 [.tmp 6] = _
    simp only [evs, q1]) (by
    have q2 : capB τ [tsl] [v] = some (.int .i64 (Int.ofNat cp)) := by
      rcases hc with rfl | ⟨b, f, len, rfl⟩
      · simp only [capB, hsl]
      · simp only [capB, hsl]
    show builtinB τ .cap [tsl] [v] h = _
    simp only [builtinB, q2]) (show 7 < 8 by decide)).trans ?_
  refine (keysK_lay (v := .int .i64 (Int.ofNat cp)) (h' := h) rfl (by exact leaf_assign ev_lay_same) (show 2 < 8 by decide)).trans ?_
  show Kx.r _ h = _
  rw [hr]
  show endK τ S0.dv fn.results.toList _ k [] h = _
  rw [hf.rs]
  have q : ∀ fr : Fr, (fr.lay 2 (.int .i64 (Int.ofNat cp))).tm.get 2 = some (.int .i64 (Int.ofNat cp)) := fun fr => by rw [Fr.lay_get, if_pos rfl]
  simp only [endK, resB, q, tupV]

structure CapReg (τ : Tab) (A : Array Oper) (fc : FuncId) (tb tc td : Tmp) (t3 : TypeId) : Prop where
  a : ∃ tys, A.toList.map keyOf = [(some tc, .call ⟨.value (.func fc), #[.tmp tb], tys⟩), (some td, .binOp .eql t3 (.tmp tc) (.const (.int .i64 0)) t3)]
  g : (A.toList.all fun o => o.guard.isNone && noDefer o.op) = true
  ne : tc ≠ td

theorem hookCap_ok (T : TabOk P τ) (hS0 : SumsOk P τ S0) {fc : FuncId} {fn : Func} {A0 A1 A : Array Oper} {ts tsl t3 t3' : TypeId} {o : Nat} {tb tc td : Tmp} (hf : CapFn τ fc fn A0 A1 ts tsl t3 o) (hr : CapReg τ A fc tb tc td t3') {j : Nat} :
    HookOk P τ (hookCap tb tc td o) (.region j A false) := by
  intro ρ fr0 fr' h0 h' a w st hu K outs hK
  unfold hookCap at hu
  split at hu
  case h_2 => cases hu
  rename_i id htb htc
  split at hu
  case h_2 => cases hu
  rename_i c n e lo hi x hb
  obtain ⟨tys, ha⟩ := hr.a
  -- what is known, and what is so
  have main : ∀ (b : Bool) (v : Value) (cp : Nat) (c2 : Ev.T Value), tc < fr0.sz → td < fr0.sz → c2.get o = some v → (v = .slice none 0 cp ∨ ∃ b f len, v = .slice (some ⟨b, f, some 0⟩) len cp) → Nat.beq cp 0 = b →
      (∀ pl, ρ id = some pl → BR P ρ pl w (.cells c2 n e lo hi x)) → K.n ⟨fr0.tm.ins td (.bool b), fr0.sz, fr0.ds⟩ h0 = some outs → (Code.region j A false).wpIn (Fw none) 0 P (QK P τ ρ w h0 K outs) a w := by
    intro b v cp c2 q1 q2 hv hc hcp hbr hK
    let h2 : Hp := ⟨h0.t.ins id (.cells c2 n e lo hi x), h0.nx, .no⟩
    have h2b : h2.t.get id = some (.cells c2 n e lo hi x) := Ev.T.get_ins_same _ _ _
    have hk2 : Hkt P τ ρ h2 w := by
      refine ⟨⟨st.hk.1.fresh, fun i pl hb' ei eH => ?_, st.hk.1.bnd, fun i j pi pj hi' ei ej eHi hij hbb => ?_, st.hk.1.glob⟩, st.hk.2⟩
      · have eH : (h0.t.ins id _).get i = some hb' := eH
        rw [Ev.T.get_ins] at eH
        by_cases hh : i = id
        · rw [if_pos hh] at eH; cases eH; subst hh; exact hbr pl ei
        · rw [if_neg hh] at eH; exact st.hk.1.hr i pl hb' ei eH
      · have eHi : (h0.t.ins id _).get i = some hi' := eHi
        rw [Ev.T.get_ins] at eHi
        by_cases hh : i = id
        · rw [if_pos hh] at eHi; cases eHi; subst hh
          have := st.hk.1.ord i j pi pj _ ei ej hb hij hbb
          cases this
        · rw [if_neg hh] at eHi; exact st.hk.1.ord i j pi pj hi' ei ej eHi hij hbb
    have hc0 := fun_sound T hS0 (nd_ok T S0) (fun c hc => draw_ok T hc) 5 3
    let f1 : Fr := fr0.lay tc (.int .i64 (Int.ofNat cp))
    let f2 : Fr := f1.lay td (.bool b)
    have hrun : codeK τ (funK τ S0 5 3) 5 none (.region j A false) endKt fr0 h2 = some [.frm f2 h2] := by
      rw [codeK_region hr.g, ha]
      have g1 : ev τ fr0 (.tmp tb) = some (ptr id 0) := htb
      have hcall : keysK τ (funK τ S0 5 3) endKt.p endKt.n [(some tc, .call ⟨.value (.func fc), #[.tmp tb], tys⟩), (some td, .binOp .eql t3' (.tmp tc) (.const (.int .i64 0)) t3')] fr0 h2 =
          keysK τ (funK τ S0 5 3) endKt.p endKt.n [(some td, .binOp .eql t3' (.tmp tc) (.const (.int .i64 0)) t3')] f1 h2 := by
        have hev : evs τ fr0 (#[Operand.tmp tb] : Array Operand).toList = some [ptr id 0] := by
          show evs τ fr0 [.tmp tb] = _
          simp only [evs, g1]
        rw [keysK]
        simp only [opK, callB, hev]
        show funK τ S0 5 (2 + 1) (.func fc) ([] ++ [ptr id 0] ++ []) h2 _ _ = _
        have : ([] : List Value) ++ [ptr id 0] ++ [] = [ptr id 0] := rfl
        rw [this, cap_call hf h2b hv hc]
        rw [Fr.set_lay q1]
      rw [hcall]
      refine (keysK_lay (v := .bool b) (h' := h2) rfl (by
        have q : ev τ f1 (.tmp tc) = some (.int .i64 (Int.ofNat cp)) := ev_lay_same
        have q' : binB τ .eql t3' (.tmp tc) (.const (.int .i64 0)) (.int .i64 (Int.ofNat cp)) (.int .i64 0) = some (.bool (Nat.beq cp 0)) := rfl
        have q'' : ev τ f1 (.const (.int .i64 0)) = some (.int .i64 0) := rfl
        show leafB τ f1 h2 _ = _
        simp only [leafB, q, q'', q', ok1, hcp]) (by exact q2)).trans ?_
      rfl
    refine wpIn_mono (code_sound T hc0 (draw_ok T hc0) 5 (.region j A false) (by intro hh; cases hh) (ro := none) (ro' := none) (⟨hk2, st.fok, st.ds⟩ : St P τ ρ fr0 h2 a w) trivial hrun) fun en a1 w1 hq => ?_
    obtain ⟨ρ1, fr1, h1, o1, k1, k2, k3, k4⟩ := hq
    cases en with
    | normal =>
      simp only [Option.some.injEq] at k4; subst k4
      have := List.mem_singleton.1 (k3 (List.mem_singleton.2 rfl))
      cases this
      have stp := k2.stp
      have hρ : ρ1 = ρ := by
        funext i
        rcases Nat.lt_or_ge i h0.nx with hlt | hge
        · exact stp.ext i hlt
        · rw [k1.hk.1.fresh i hge, st.hk.1.fresh i hge]
      subst hρ
      have hheap : ∀ b, b < w.heap.size → w1.heap[b]? = w.heap[b]? := fun b hb => stp.chg b hb fun _ _ hh => hh.elim
      have hk1 : Hkt P τ ρ1 h0 w1 := st.hk.grow stp.size hheap
      refine ⟨ρ1, ⟨fr0.tm.ins td (.bool b), fr0.sz, fr0.ds⟩, h0, outs, ⟨hk1, ⟨k1.fok.1, fun t v hv => ?_⟩, k1.ds⟩, ⟨⟨fun _ _ => rfl, stp.size, fun b hb _ => hheap b hb, fun i pl hi' ei => (by rw [st.hk.1.fresh i hi'] at ei; cases ei), Nat.le_refl _, stp.os, stp.out, stp.tape, stp.drawn⟩, AF.refl _⟩, fun _ hx => hx, hK⟩
      have hv : (fr0.tm.ins td (.bool b)).get t = some v := hv
      refine k1.fok.2 t v ?_
      show (f1.lay td (.bool b)).tm.get t = some v
      rw [Ev.T.get_ins] at hv
      rw [Fr.lay_get]
      by_cases ht : t = td
      · rw [if_pos ht] at hv ⊢; exact hv
      · rw [if_neg ht] at hv ⊢
        have : t ≠ tc := fun hh => by subst hh; rw [htc] at hv; cases hv
        rw [Fr.lay_get, if_neg this]; exact hv
    | exit id => cases k4
    | ret => cases k4
    | panic ch => obtain ⟨_, _, _, _, k4⟩ := k4; cases k4
    | goto l => exact k4.elim
    | outgrown => exact k4.elim
  split at hu
  · rename_i hv
    replace hu := bifO hu; obtain ⟨hch, hu⟩ := hu
    obtain ⟨q1, q2⟩ := and2 hch
    simp only [Option.some.injEq, Prod.mk.injEq] at hu
    obtain ⟨rfl, rfl⟩ := hu
    exact main true _ 0 c (by rwa [Nat.blt_eq] at q1) (by rwa [Nat.blt_eq] at q2) hv (.inl rfl) rfl (fun pl e => st.hk.1.hr id pl _ e hb) hK
  · rename_i ad len cap hv
    replace hu := bifO hu; obtain ⟨hch, hu⟩ := hu
    obtain ⟨hch, q2⟩ := and2 hch
    obtain ⟨q0, q1⟩ := and2 hch
    have q0 := Nat.le_of_ble_eq_true q0
    simp only [Option.some.injEq, Prod.mk.injEq] at hu
    obtain ⟨rfl, rfl⟩ := hu
    -- the true capacity
    have hptr : ∃ pl, ρ id = some pl := by
      obtain ⟨v', _, h2⟩ := st.fok.2 tb _ htb
      cases h2 with | ptr e => exact ⟨_, e⟩
    obtain ⟨pl, hpl⟩ := hptr
    obtain ⟨C, fz, r1, r2, r3, r4, r5, r6⟩ := st.hk.1.hr id pl _ hpl hb
    obtain ⟨ro, v', rv, rr⟩ := r4 o _ hv
    obtain ⟨ab, af, asp⟩ := ad
    generalize hv'' : v' = z at rr
    cases rr with | @slice _ _ _ _ _ pls o' e1 e2 =>
    refine main false (.slice (some ⟨ab, af, some 0⟩) len (cap + slk asp pls)) (cap + slk asp pls) (c.ins o (.slice (some ⟨ab, af, some 0⟩) len (cap + slk asp pls))) (by rwa [Nat.blt_eq] at q1) (by rwa [Nat.blt_eq] at q2) (Ev.T.get_ins_same _ _ _) (.inr ⟨_, _, _, rfl⟩) (Bool.eq_false_iff.2 fun hh => by have := Nat.eq_of_beq_eq_true hh; omega) (fun pl' e => ?_) hK
    rw [hpl] at e; cases e
    refine ⟨C, fz, r1, r2, r3, fun i u hu' => ?_, r5, r6⟩
    rw [Ev.T.get_ins] at hu'
    by_cases hio : i = o
    · rw [if_pos hio] at hu'; cases hu'; subst hio
      refine ⟨ro, _, rv, ?_⟩
      rw [hv'']
      have := VR.slice (ρ := ρ) (id := ab) (off := af) (sp := some 0) (len := len) (cap := cap + slk asp pls) (o' := o') e1 (fun hh => e2 (by simp [slk] at hh ⊢; omega))
      simpa [slk] using this
    · rw [if_neg hio] at hu'; exact r4 i u hu'
  · cases hu
end
end Go.Ev
end
