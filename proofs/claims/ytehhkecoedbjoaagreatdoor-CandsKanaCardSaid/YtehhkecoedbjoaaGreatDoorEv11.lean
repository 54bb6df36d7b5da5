/-
  Regions whose order is drawn: one operation; the end.
-/
import Derived.Test.YtehhkecoedbjoaaGreatDoorEv10
set_option linter.unusedVariables false
set_option linter.unusedSimpArgs false
set_option linter.unusedSectionVars false
namespace Go.Ev

/-- Some temporaries alone. -/
noncomputable def cutT (t : T Value) : List Nat → T Value
  | [] => .nil
  | x :: l => match t.get x with
    | some v => (cutT t l).ins x v
    | none => cutT t l
theorem cutT_get (t : T Value) (j : Nat) : ∀ l : List Nat, (cutT t l).get j = if j ∈ l then t.get j else none
  | [] => by simp [cutT, T.get_nil]
  | x :: l => by
    have ih := cutT_get t j l
    simp only [cutT]
    cases hx : t.get x with
    | none =>
      simp only [ih]
      by_cases h : j = x
      · subst h; simp [hx]
      · simp [h]
    | some v =>
      simp only [T.get_ins]
      by_cases h : j = x
      · subst h; simp [hx]
      · simp [h, ih]

theorem wantB_congr {fr fr' : Fr} {ops : Array Oper} {g : Option (Nat × Bool)} (h : ∀ j w t, g = some (j, w) → (ops[j]?).bind (·.dst) = some t → fr.tm.get t = fr'.tm.get t) : wantB fr ops.toList g = wantB fr' ops.toList g := by
  cases g with
  | none => rfl
  | some x =>
    obtain ⟨j, w⟩ := x
    unfold wantB
    simp only []
    cases hj : ops.toList[j]? with
    | none => rfl
    | some o =>
      simp only []
      cases ht : o.dst with
      | none => rfl
      | some t =>
        simp only []
        have hj' : ops[j]? = some o := by simpa using hj
        rw [h j w t rfl (by rw [hj']; exact ht)]

section
variable {P : Program} {τ : Tab} {call : CallF} {ops : Array Oper} {F : Nat → Fr} {H : Nat → Hp} {E : Nat → Eff} {R : Nat → Ren}
variable {ρ0 : Ren} {a0 : Act} {w0 : World} {L : Array Bool} {ρ : Ren} {a : Act} {w : World} {i : Nat}

/-- A heap that holds what an operation looks at. -/
theorem part_run {o : Oper} {fq : Fr} {h' : Hp} (hcg : ∀ x ∈ o.op.operands, ev τ fq x = ev τ (F i) x) (hop : opK τ call (F i) (H i).mark o.op (DK (F i) o) DP = some [.frm (F (i + 1)) h']) (hH : H (i + 1) = (H i).back h')
    (hE : E i = effOf τ (F i) o.op (H i) h'.lo) (hEok : (E i).ok = true) (hnlk : ∀ a t, E i ≠ .lk a t) : ∃ hq hq' : Hp, hq.nx = (H i).nx ∧ hq.lo = .no ∧ opK τ call fq hq o.op (DK (F i) o) DP = some [.frm (F (i + 1)) hq'] ∧ hq'.nx = (H (i + 1)).nx ∧
      (∀ id hb, hq.t.get id = some hb → (H i).t.get id = some hb ∧ (E i = .rdAll ∨ (∃ lo, Ws E i lo) ∨ E i = .rd id)) ∧
      (∀ id, ((H i).nx ≤ id ∧ id < (H (i + 1)).nx) ∨ Wr H E i id → hq'.t.get id = (H (i + 1)).t.get id) ∧ (∀ lo, Ws E i lo → hq'.lo = lo) ∧ ((∀ lo, ¬ Ws E i lo) → ∀ id, id < (H i).nx → ¬ hq'.lo.has id) := by
  obtain ⟨e2, e3, _⟩ := eff_lo hop (hE ▸ hEok)
  have e1 : ∀ s, Ws E i s → s = h'.lo := fun s hs => let ⟨me, hme⟩ := hs; (eff_wr (hE.symm.trans hme)).1
  rw [← hE] at e2 e3
  have full : (E i = .rdAll ∨ ∃ lo, Ws E i lo) → ∃ hq hq' : Hp, hq.nx = (H i).nx ∧ hq.lo = .no ∧ opK τ call fq hq o.op (DK (F i) o) DP = some [.frm (F (i + 1)) hq'] ∧ hq'.nx = (H (i + 1)).nx ∧
      (∀ id hb, hq.t.get id = some hb → (H i).t.get id = some hb ∧ (E i = .rdAll ∨ (∃ lo, Ws E i lo) ∨ E i = .rd id)) ∧
      (∀ id, ((H i).nx ≤ id ∧ id < (H (i + 1)).nx) ∨ Wr H E i id → hq'.t.get id = (H (i + 1)).t.get id) ∧ (∀ lo, Ws E i lo → hq'.lo = lo) ∧ ((∀ lo, ¬ Ws E i lo) → ∀ id, id < (H i).nx → ¬ hq'.lo.has id) := by
    intro hh
    refine ⟨(H i).mark, h', rfl, rfl, by rw [opK_congr hcg]; exact hop, by rw [hH]; rfl, fun id hb hg => ⟨hg, hh.imp (fun x => x) .inl⟩, fun id _ => by rw [hH]; rfl, fun lo hlo => (e1 lo hlo).symm, fun hn => e2 fun s me hs => hn s ⟨me, hs⟩⟩
  cases he : E i with
  | rdAll => rw [he] at full; exact full (.inl rfl)
  | wr lo me => rw [he] at full; exact full (.inr ⟨lo, me, he⟩)
  | lk a t => exact absurd he (hnlk a t)
  | bad => rw [he] at hEok; cases hEok
  | non =>
    obtain ⟨v, nb, hq⟩ := eff_non (hE.symm.trans he) hop
    have h1 := hq (H i).mark (DK (F i) o) DP rfl
    rw [hop] at h1
    obtain ⟨hset, h2⟩ := dk_eq h1.symm
    have h3 := hq ⟨.nil, (H i).nx, .no⟩ (DK (F i) o) DP rfl
    refine ⟨⟨.nil, (H i).nx, .no⟩, newO ⟨.nil, (H i).nx, .no⟩ nb, rfl, rfl, ?_, ?_, fun id hb hg => (by cases hg), fun id hid => ?_, fun lo hlo => (by obtain ⟨me, hlo⟩ := hlo; rw [he] at hlo; cases hlo), fun _ => ?_⟩
    · rw [opK_congr hcg, h3]; simp only [DK, hset]
    · rw [hH, ← h2]; cases nb <;> rfl
    · rcases hid with ⟨k1, k2⟩ | ⟨_, lo, ⟨me, k⟩, _⟩
      · rw [hH, ← h2] at k2
        rw [hH, ← h2]
        cases nb with
        | none => have k2 : id < (H i).nx := k2; omega
        | some b =>
          have k2 : id < (H i).nx + 1 := k2
          have : id = (H i).nx := by omega
          subst this
          show (T.ins T.nil (H i).nx b).get (H i).nx = ((H i).t.ins (H i).nx b).get (H i).nx
          rw [T.get_ins_same, T.get_ins_same]
      · rw [he] at k; cases k
    · cases nb <;> exact fun _ _ h => h
  | rd b =>
    obtain ⟨v, hq⟩ := eff_rd (hE.symm.trans he) hop
    have h1 := hq (H i).mark (DK (F i) o) DP rfl
    rw [hop] at h1
    obtain ⟨hset, h2⟩ := dk_eq h1.symm
    have hone : ∃ t : T HB, t.get b = (H i).t.get b ∧ ∀ id hb, t.get id = some hb → id = b := by
      cases hb : (H i).t.get b with
      | none => exact ⟨.nil, rfl, fun id hb h => by cases h⟩
      | some x => exact ⟨T.nil.ins b x, T.get_ins_same _ _ _, fun id hb h => by
          rw [T.get_ins] at h
          by_cases hh : id = b
          · exact hh
          · rw [if_neg hh, T.get_nil] at h; cases h⟩
    obtain ⟨t, t1, t2⟩ := hone
    have h3 := hq ⟨t, (H i).nx, .no⟩ (DK (F i) o) DP t1
    refine ⟨⟨t, (H i).nx, .no⟩, ⟨t, (H i).nx, .no⟩, rfl, rfl, ?_, ?_, fun id hb hg => ?_, fun id hid => ?_, fun lo hlo => (by obtain ⟨me, hlo⟩ := hlo; rw [he] at hlo; cases hlo), fun _ _ _ h => h⟩
    · rw [opK_congr hcg, h3]; simp only [DK, hset]
    · rw [hH, ← h2]; rfl
    · have := t2 id hb hg; subst this
      exact ⟨by rw [← t1]; exact hg, .inr (.inr rfl)⟩
    · rcases hid with ⟨k1, k2⟩ | ⟨_, lo, ⟨me, k⟩, _⟩
      · have : (H (i + 1)).nx = (H i).nx := by rw [hH, ← h2]; rfl
        omega
      · rw [he] at k; cases k

theorem eff_lk_shape {fr : Fr} {o : Op} {h0 : Hp} {lo : WS} {a t : Nat} (he : effOf τ fr o h0 lo = .lk a t) : ∃ m x, o = .lookup t m x false ∧ ev τ fr m = some (.map (some a)) := by
  unfold effOf at he
  cases hq : quietOp o with
  | true => rw [hq] at he; cases he
  | false =>
    rw [hq] at he
    simp only [cond_false] at he
    split at he
    · cases he
    · cases he
    · cases he
    · cases he
    · cases he
    · cases he
    · split at he
      · cases he
      · exact (genE_shape.2.1 _ _ he).elim
    · rename_i t m x ok
      split at he
      · rename_i r hx
        cases ok with
        | true => cases he
        | false => cases he; exact ⟨m, x, rfl, hx⟩
      · exact (genE_shape.2.1 _ _ he).elim
    · split at he
      · exact (meE_shape.2.1 _ _ he).elim
      · exact (genE_shape.2.1 _ _ he).elim
    · split at he
      · cases he
      · cases he
      · exact (genE_shape.2.1 _ _ he).elim
    · split at he
      · cases he
      · cases he
      · exact (genE_shape.2.1 _ _ he).elim
    · exact (genE_shape.2.1 _ _ he).elim

/-- How far the writers of a block are through. -/
theorem far (r : DRun P τ call ops F H E R) (inv : DInv P ops F H E R ρ0 a0 w0 L ρ a w) {id : Nat} (hid : id < (H ops.size).nx) : ∃ m, m ≤ ops.size ∧ id < (H m).nx ∧ Cnd ops H E L m id := by
  have key : ∀ k, k ≤ ops.size → ∃ m, m ≤ k ∧ (∀ j, j < m → Wr H E j id → On L j) ∧ (m = k ∨ (Wr H E m id ∧ ¬ On L m)) := by
    intro k
    induction k with
    | zero => intro _; exact ⟨0, Nat.le_refl _, fun j hj => by omega, .inl rfl⟩
    | succ k ih =>
      intro hk
      obtain ⟨m, h1, h2, h3⟩ := ih (by omega)
      rcases h3 with rfl | h3
      · by_cases hw : Wr H E m id ∧ ¬ On L m
        · exact ⟨m, by omega, h2, .inr hw⟩
        · refine ⟨m + 1, Nat.le_refl _, fun j hj hwj => ?_, .inl rfl⟩
          by_cases hjm : j = m
          · subst hjm; exact Classical.byContradiction fun hn => hw ⟨hwj, hn⟩
          · exact h2 j (by omega) hwj
      · exact ⟨m, by omega, h2, .inr h3⟩
  obtain ⟨m, h1, h2, h3⟩ := key ops.size (Nat.le_refl _)
  refine ⟨m, h1, ?_, fun j hj hwj => ⟨fun hon => ?_, fun hlt => h2 j hlt hwj⟩⟩
  · rcases h3 with rfl | h3
    · exact hid
    · exact h3.1.1
  · rcases h3 with rfl | ⟨h3, h4⟩
    · exact hj
    · refine Nat.lt_of_not_le fun hle => ?_
      have hne : m ≠ j := fun e => h4 (e ▸ hon)
      have hmj : m < j := by omega
      obtain ⟨_, s, ⟨me, hs⟩, _⟩ := h3
      obtain ⟨_, s', hs', _⟩ := hwj
      have hc := eff_cmp r (i := m) (j := j) (by omega) hj hne hs (.inl ⟨s', hs'⟩)
      rw [Nat.max_eq_right hle, Nat.min_eq_left hle, compB_lt hmj] at hc
      exact h4 (before_spec inv.closed hc hon)

theorem lk_chain (r : DRun P τ call ops F H E R) {t id p q : Nat} (hpq : p ≤ q) (hq : q ≤ ops.size) (hid : id < (H p).nx) (hme : ∀ k, p ≤ k → k < q → Wr H E k id → ∃ s, E k = .wr s (some t)) :
    LkEq τ t id ((H p).t.get id) ((H q).t.get id) := by
  induction q with
  | zero => have : p = 0 := by omega
            subst this; exact LkEq.refl _ _ _
  | succ q ih =>
    by_cases hp : p = q + 1
    · subst hp; exact LkEq.refl _ _ _
    · refine (ih (by omega) (by omega) fun k h1 h2 => hme k h1 (by omega)).trans ?_
      by_cases hw : Wr H E q id
      · obtain ⟨s, hs⟩ := hme q (by omega) (by omega) hw
        obtain ⟨rr, h1, h2⟩ := (r.frm q (by omega)).me s t hs
        obtain ⟨_, s', ⟨me, hs'⟩, hh⟩ := hw
        rw [hs] at hs'; cases hs'
        subst h1
        have hh : id = rr := hh
        subst hh
        exact h2
      · rw [(r.frm q (by omega)).same id (Nat.lt_of_lt_of_le hid (r.nx_le (by omega) (by omega))) hw]
        exact LkEq.refl _ _ _

theorem draw_op (T : TabOk P τ) (hc : CallOk P τ call) (hok : RegOk ops) (r : DRun P τ call ops F H E R) (hglob : ∀ g, g < τ.ng → ρ0 g = some ⟨g, 0, 0⟩) (inv : DInv P ops F H E R ρ0 a0 w0 L ρ a w)
    (hr : i ∈ Region.ready .any ops L) {ro' : Option Nat} {Q : Exit → Act → World → Prop} :
    wpOpIn (Fw ro') 0 P ops Q i (fun a' w' => ∃ ρ', DInv P ops F H E R ρ0 a0 w0 (L.setIfInBounds i true) ρ' a' w') a w := by
  obtain ⟨hiL, hnot, o, ho, hedge⟩ := rdy_spec hr
  have hi : i < ops.size := by rw [← inv.size]; exact hiL
  obtain ⟨hsole, hstep⟩ := r.step i o ho
  obtain ⟨aT, wT, stT⟩ := r.st i (Nat.le_of_lt hi)
  obtain ⟨aT1, wT1, stT1⟩ := r.st (i + 1) hi
  have hnx := (r.frm i hi).nx
  -- who lays into the temporaries that the operation looks at
  have hsee : ∀ t ∈ o.looksAt ops, ∀ j, WT ops j t → (On L j ↔ j < i) := by
    intro t ht j hj
    by_cases hji : j = i
    · subst hji; exact ⟨fun h => absurd h hnot, fun h => by omega⟩
    · unfold Oper.looksAt at ht
      rcases List.mem_append.1 ht with ht | ht
      · obtain ⟨x, hx, hxt⟩ := List.mem_filterMap.1 ht
        have : x = .tmp t := by cases x <;> simp at hxt; rw [hxt]
        subst this
        exact cmp_spec inv.closed hr hji (hok.tmp i o t ho (.inr (by simpa using hx)) j hj hji)
      · cases hg : o.guard with
        | none => rw [hg] at ht; cases ht
        | some gw =>
          obtain ⟨g, wnt⟩ := gw
          rw [hg] at ht hsole
          obtain ⟨og, t', hog, hd, huniq⟩ := sole_spec hsole
          simp only [hog, Option.bind_some, hd, Option.toList_some, List.mem_singleton] at ht
          subst ht
          have := huniq j hj
          subst this
          obtain ⟨e, he, heq, hb⟩ := hok.guard i o j wnt ho hg
          have hon := hedge e he hb
          have hlt := hok.lt i o e ho he hb
          rw [heq] at hon hlt
          exact ⟨fun _ => hlt, fun _ => hon⟩
  have htc : ∀ t j, WT ops i t → WT ops j t → j ≠ i → (On L j ↔ j < i) := by
    intro t j hwi hwj hne
    obtain ⟨o', ho', hd⟩ := hwi
    rw [ho] at ho'; cases ho'
    exact cmp_spec inv.closed hr hne (hok.tmp i o t ho (.inl hd) j hwj hne)
  -- the frame that the operation looks at
  have hren : ∀ {id : Nat}, id < (H i).nx → R ops.size id = R i id := fun h => r.ren (Nat.le_of_lt hi) (Nat.le_refl _) h
  have hfok : Fok (ρ.cut (R i)) ⟨cutT (F i).tm (o.looksAt ops), (F i).sz, []⟩ a := by
    refine ⟨by show (F i).sz = _; rw [(r.sz (Nat.le_of_lt hi)).1, inv.sz], fun t v hv => ?_⟩
    have hv : (cutT (F i).tm (o.looksAt ops)).get t = some v := hv
    rw [cutT_get] at hv
    by_cases ht : t ∈ o.looksAt ops
    · rw [if_pos ht] at hv
      obtain ⟨v', h1, h2⟩ := inv.tm t i v (Nat.le_of_lt hi) (hsee t ht) hv
      obtain ⟨_, _, h3⟩ := stT.fok.2 t v hv
      exact ⟨v', h1, h2.cut h3⟩
    · rw [if_neg ht] at hv; cases hv
  have hcg : ∀ x ∈ o.op.operands, ev τ ⟨cutT (F i).tm (o.looksAt ops), (F i).sz, []⟩ x = ev τ (F i) x := by
    intro x hx
    cases x with
    | tmp t =>
      show (cutT (F i).tm (o.looksAt ops)).get t = (F i).tm.get t
      have hm : t ∈ o.looksAt ops := by unfold Oper.looksAt; exact List.mem_append_left _ (List.mem_filterMap.2 ⟨.tmp t, by simpa using hx, rfl⟩)
      rw [cutT_get, if_pos hm]
    | _ => rfl
  have hwq : wantB ⟨cutT (F i).tm (o.looksAt ops), (F i).sz, []⟩ ops.toList o.guard = wantB (F i) ops.toList o.guard := by
    refine wantB_congr fun j wn t hg ht => ?_
    show (cutT (F i).tm (o.looksAt ops)).get t = (F i).tm.get t
    have hm : t ∈ o.looksAt ops := by unfold Oper.looksAt; exact List.mem_append_right _ (by simp only [hg]; simp [ht])
    rw [cutT_get, if_pos hm]
  unfold wpOpIn
  simp only [ho]
  rcases hstep with ⟨hw, h', hop, hH, hE, hEok⟩ | ⟨hw, hset, hH, hE⟩
  · -- it is carried out
    have hwant := want_sound hfok (hwq.trans hw) o rfl
    rw [if_pos hwant]
    have hnd : ∀ c, o.op ≠ .defer c := by
      intro c hcd
      rw [hcd] at hop
      simp [opK, leafB] at hop
    have hsem : o.semAt ro' a.eval = execOp a.eval o := Oper.semAt_eq ro' a.eval o hnd
    by_cases hlk : ∃ b t, E i = .lk b t
    · -- a key is looked up
      obtain ⟨b, t, hlk⟩ := hlk
      obtain ⟨mo, xo, hoo, hmo⟩ := eff_lk_shape (hE.symm.trans hlk)
      have hb : b < (H i).nx := by
        have hv := ev_sound stT.hk stT.fok hmo
        generalize aT.eval mo = z at hv
        cases hv with | map e => exact r.dom (Nat.le_of_lt hi) e
      have hnn := r.nx_le (Nat.le_of_lt hi) (Nat.le_refl _)
      obtain ⟨m, m1, m2, m3⟩ := far r inv (id := b) (by omega)
      have hwme : ∀ k, k < ops.size → Wr H E k b → k ≠ i → ¬ (On L k ↔ k < i) → ∃ s, E k = .wr s (some t) := by
        intro k hk hwk hki hno
        obtain ⟨_, s, ⟨me, hs⟩, hh⟩ := hwk
        cases hme : isMe t me with
        | false => exact absurd (cmp_spec inv.closed hr hki (max_comm' _ _ _ (eff_cmp r hk hi hki hs (.inr (.inr (.inr ⟨b, t, hlk, hh, hme⟩)))))) hno
        | true =>
          cases me with
          | none => cases hme
          | some t' => have := Nat.eq_of_beq_eq_true hme; subst this; exact ⟨s, hs⟩
      have hnotw : ¬ Wr H E i b := fun ⟨_, s, ⟨me, hs⟩, _⟩ => by rw [hlk] at hs; cases hs
      have hEq : LkEq τ t b ((H m).t.get b) ((H i).t.get b) := by
        rcases Nat.lt_or_ge i m with him | him
        · refine (lk_chain r (Nat.le_of_lt him) m1 hb fun k h1 h2 hwk => ?_).symm
          have hki : k ≠ i := fun e => hnotw (e ▸ hwk)
          exact hwme k (by omega) hwk hki fun hh => by
            have := hh.1 ((m3 k (by omega) hwk).2 h2); omega
        · refine lk_chain r him (Nat.le_of_lt hi) m2 fun k h1 h2 hwk => ?_
          have hki : k ≠ i := fun e => hnotw (e ▸ hwk)
          exact hwme k (by omega) hwk hki fun hh => by
            have := (m3 k (by omega) hwk).1 (hh.2 h2); omega
      have hone : ∃ tt : Ev.T HB, tt.get b = (H m).t.get b ∧ ∀ id hb, tt.get id = some hb → id = b := by
        cases hb : (H m).t.get b with
        | none => exact ⟨.nil, rfl, fun id hb h => by cases h⟩
        | some x => exact ⟨Ev.T.nil.ins b x, Ev.T.get_ins_same _ _ _, fun id hb h => by
            rw [Ev.T.get_ins] at h
            by_cases hh : id = b
            · exact hh
            · rw [if_neg hh, Ev.T.get_nil] at h; cases h⟩
      obtain ⟨tt, t1, t2⟩ := hone
      obtain ⟨v, hq⟩ := eff_lk (hE.symm.trans hlk) hop
      have h1 := hq (H i).mark (DK (F i) o) DP (LkEq.refl _ _ _)
      have h1' : DK (F i) o v (H i).mark = some [.frm (F (i + 1)) h'] := h1.symm.trans hop
      obtain ⟨hset, _⟩ := dk_eq h1'
      have h3 := hq ⟨tt, (H ops.size).nx, .no⟩ (DK (F i) o) DP (by show LkEq τ t b (tt.get b) _; rw [t1]; exact hEq)
      have q3 : opK τ call ⟨cutT (F i).tm (o.looksAt ops), (F i).sz, []⟩ ⟨tt, (H ops.size).nx, .no⟩ o.op (DK (F i) o) DP = some [.frm (F (i + 1)) ⟨tt, (H ops.size).nx, .no⟩] := by
        rw [opK_congr hcg, h3]; simp only [DK, hset]
      have hltn : ∀ id pl, ρ id = some pl → id < (H ops.size).nx := fun id pl e => by
        obtain ⟨pl', h⟩ := inv.dom id pl e
        exact r.dom (Nat.le_refl _) h
      have hkq : Hkt P τ ρ ⟨tt, (H ops.size).nx, .no⟩ w := by
        refine ⟨⟨fun id hid => ?_, fun id pl hob e eH => ?_, inv.bnd, fun x y px py hx ex ey eHx hxy hpb => ?_, fun g hg => ?_⟩, Nat.le_trans r.ng (r.nx_le (Nat.zero_le _) (Nat.le_refl _))⟩
        · have hid : (H ops.size).nx ≤ id := hid
          cases hρ : ρ id with
          | none => rfl
          | some pl => have := hltn id pl hρ; omega
        · have eH : tt.get id = some hob := eH
          have := t2 id hob eH; subst this
          rw [t1] at eH
          exact inv.mem id pl hob m m1 e m2 m3 eH
        · have eHx : tt.get x = some hx := eHx
          have := t2 x hx eHx; subst this
          rw [t1] at eHx
          exact inv.ord x y px py hx m m1 ex ey hxy hpb m2 m3 eHx
        · rw [inv.ext g (Nat.lt_of_lt_of_le hg r.ng)]; exact hglob g hg
      have hans := op_sound T hc hkq (hfok.mono (Ren.cut_le _ _)) q3
      rw [← hsem] at hans
      have hnx1 := (r.frm i hi).lk b t hlk
      refine oper_of_ans hans (fun v' w' hp => ?_) (fun ch w' hp => ?_) (fun w' hp => hp)
      · obtain ⟨ρ1, v, h1, o1, k1, k2, k3, k4, k5⟩ := hp
        obtain ⟨hset, rfl⟩ := dk_spec k4 k5
        have stp := k3.stp
        refine ⟨ρ, inv.next r hr hi ho htc hset (fun hsome => ?_) (fun _ _ => rfl) (Ren.le_refl ρ) inv.dom (fun id pl e => Nat.lt_of_lt_of_le (inv.bnd id pl e) stp.size) stp.size (fun b hb _ => stp.chg b hb fun _ _ h => h.elim) (fun id pl h1 h2 e => by omega) (fun id pl hb hA e hg => ?_) (fun id id' pl pl' hb hlt h' hA e e' heq hg => ?_) stp.os stp.out stp.tape stp.drawn⟩
        · obtain ⟨d, hd⟩ := Option.isSome_iff_exists.1 hsome
          obtain ⟨_, _, h3⟩ := stT1.fok.2 d v ((set_facts hset).2.2.2 d hd).2
          refine (k1.cut h3).mono fun id pl e => ?_
          obtain ⟨e1, _, e2⟩ := Ren.cut_spec e
          have hid : id < (H (i + 1)).nx := r.dom hi e2
          rw [stp.ext id (by show id < (H ops.size).nx; omega)] at e1
          exact e1
        · rcases hA with hA | hA
          · omega
          · obtain ⟨_, s, ⟨me, hs⟩, _⟩ := hA; rw [hlk] at hs; cases hs
        · rcases hA with hA | hA
          · omega
          · obtain ⟨_, s, ⟨me, hs⟩, _⟩ := hA; rw [hlk] at hs; cases hs
      · obtain ⟨_, _, _, _, _, _, _, _, _, hb, _⟩ := hp; cases hb
    obtain ⟨hq, hq', q1, q2, q3, q4, q5, q6, q7, q8⟩ := part_run hcg hop hH hE hEok fun a t h => hlk ⟨a, t, h⟩
    have hkq : Hkt P τ (ρ.cut (R i)) hq w := by
      refine ⟨⟨fun id hid => ?_, fun id pl hb e eH => ?_, fun id pl e => inv.bnd id pl (Ren.cut_le _ _ _ _ e), fun x y px py hx ex ey eHx hxy hb => ?_, fun g hg => ?_⟩, by rw [q1]; exact Nat.le_trans r.ng (r.nx_le (Nat.zero_le i) (Nat.le_of_lt hi))⟩
      · unfold Ren.cut
        rw [stT.hk.1.fresh id (by rw [q1] at hid; exact hid)]; rfl
      · obtain ⟨eρ, pl', eR⟩ := Ren.cut_spec e
        obtain ⟨g1, g2⟩ := q5 id hb eH
        have hid := r.dom (Nat.le_of_lt hi) eR
        refine (inv.mem id pl hb i (Nat.le_of_lt hi) eρ hid (fun j hj hwj => ?_) g1).cut (stT.hk.1.hr id pl' hb eR g1)
        by_cases hji : j = i
        · subst hji; exact ⟨fun h => absurd h hnot, fun h => by omega⟩
        · obtain ⟨_, lo, ⟨me, hlo⟩, hle⟩ := hwj
          refine cmp_spec inv.closed hr hji (max_comm' _ _ _ (eff_cmp r hj hi hji hlo ?_))
          rcases g2 with h | h | h
          · exact .inr (.inl h)
          · exact .inl h
          · exact .inr (.inr (.inl ⟨id, h, hle⟩))
      · obtain ⟨eρ, _, eR⟩ := Ren.cut_spec ex
        obtain ⟨g1, g2⟩ := q5 x hx eHx
        refine inv.ord x y px py hx i (Nat.le_of_lt hi) eρ (Ren.cut_le _ _ _ _ ey) hxy hb (r.dom (Nat.le_of_lt hi) eR) (fun j hj hwj => ?_) g1
        by_cases hji : j = i
        · subst hji; exact ⟨fun h => absurd h hnot, fun h => by omega⟩
        · obtain ⟨_, lo, ⟨me, hlo⟩, hle⟩ := hwj
          refine cmp_spec inv.closed hr hji (max_comm' _ _ _ (eff_cmp r hj hi hji hlo ?_))
          rcases g2 with h | h | h
          · exact .inr (.inl h)
          · exact .inl h
          · exact .inr (.inr (.inl ⟨x, h, hle⟩))
      · have h1 := inv.ext g (Nat.lt_of_lt_of_le hg r.ng)
        exact Ren.cut_some (h1.trans (hglob g hg)) (stT.hk.1.glob g hg)
    have hans := op_sound T hc hkq hfok q3
    rw [← hsem] at hans
    refine oper_of_ans hans (fun v' w' hp => ?_) (fun ch w' hp => ?_) (fun w' hp => hp)
    · obtain ⟨ρ1, v, h1, o1, k1, k2, k3, k4, k5⟩ := hp
      obtain ⟨hset, rfl⟩ := dk_spec k4 k5
      have stp := k3.stp
      rw [q1] at stp
      let ρn : Ren := fun id => if id < (H (i + 1)).nx then ρ1.cut (R (i + 1)) id else ρ id
      have hcut : (ρ1.cut (R (i + 1))).le ρn := by
        intro id pl e
        obtain ⟨_, _, eR⟩ := Ren.cut_spec e
        show (if id < (H (i + 1)).nx then ρ1.cut (R (i + 1)) id else ρ id) = some pl
        rw [if_pos (r.dom hi eR)]; exact e
      have old : ∀ id, id < (H i).nx ∨ (H (i + 1)).nx ≤ id → ρn id = ρ id := by
        intro id hid
        show (if id < (H (i + 1)).nx then ρ1.cut (R (i + 1)) id else ρ id) = ρ id
        rcases hid with hid | hid
        · rw [if_pos (by omega)]
          unfold Ren.cut
          rw [r.ext i hi id hid, stp.ext id hid]
          unfold Ren.cut
          cases hR : R i id with
          | some pl => simp
          | none =>
            simp only [Option.isSome_none, Bool.false_eq_true, if_false]
            cases hρ : ρ id with
            | none => rfl
            | some pl => obtain ⟨pl', h⟩ := inv.dom id pl hρ; rw [hren hid, hR] at h; cases h
        · rw [if_neg (by omega)]
      have hnewnone : ∀ id, (H i).nx ≤ id → id < (H (i + 1)).nx → ρ id = none := by
        intro id h1 h2
        cases hρ : ρ id with
        | none => rfl
        | some pl =>
          rcases inv.made id pl hρ with h | ⟨j, j1, j2, j3, j4⟩
          · have := r.nx_le (Nat.zero_le i) (Nat.le_of_lt hi); omega
          · have := r.maker_eq j1 hi j3 j4 h1 h2; subst this; exact absurd j2 hnot
      have hle : ρ.le ρn := by
        intro id pl e
        by_cases hid : id < (H i).nx ∨ (H (i + 1)).nx ≤ id
        · rw [old id hid]; exact e
        · rw [hnewnone id (by omega) (by omega)] at e; cases e
      have hnew : ∀ {id pl}, ρn id = some pl → id < (H (i + 1)).nx → ρ1 id = some pl ∧ ∃ pl', R (i + 1) id = some pl' := by
        intro id pl e hid
        have e : (if id < (H (i + 1)).nx then ρ1.cut (R (i + 1)) id else ρ id) = some pl := e
        rw [if_pos hid] at e
        exact Ren.cut_spec e
      have hwlt : ∀ {id}, ((H i).nx ≤ id ∧ id < (H (i + 1)).nx) ∨ Wr H E i id → id < (H (i + 1)).nx := by
        intro id h
        rcases h with h | h
        · exact h.2
        · exact Nat.lt_of_lt_of_le h.1 hnx
      refine ⟨ρn, inv.next r hr hi ho htc hset (fun hsome => ?_) old hle (fun id pl e => ?_) (fun id pl e => ?_) stp.size (fun b hb hh => ?_) (fun id pl h1 h2 e => ?_) (fun id pl hb hA e hg => ?_) (fun id id' pl pl' hb hlt h' hA e e' heq hg => ?_) stp.os stp.out stp.tape stp.drawn⟩
      · obtain ⟨d, hd⟩ := Option.isSome_iff_exists.1 hsome
        obtain ⟨_, _, h3⟩ := stT1.fok.2 d v ((set_facts hset).2.2.2 d hd).2
        exact (k1.cut h3).mono hcut
      · by_cases hid : id < (H (i + 1)).nx
        · obtain ⟨_, pl', h⟩ := hnew e hid
          exact ⟨pl', by rw [r.ren hi (Nat.le_refl _) hid]; exact h⟩
        · rw [old id (.inr (by omega))] at e; exact inv.dom id pl e
      · by_cases hid : id < (H (i + 1)).nx
        · exact k2.1.bnd id pl (hnew e hid).1
        · rw [old id (.inr (by omega))] at e; exact Nat.lt_of_lt_of_le (inv.bnd id pl e) stp.size
      · refine stp.chg b hb fun id pl hlo e => ?_
        obtain ⟨eρ, _, eR⟩ := Ren.cut_spec e
        have hid := r.dom (Nat.le_of_lt hi) eR
        refine hh id pl hid ?_ eρ
        by_cases hwr : ∃ lo, Ws E i lo
        · obtain ⟨lo, hlo'⟩ := hwr
          exact ⟨lo, hlo', by rw [← q7 lo hlo']; exact hlo⟩
        · exact absurd hlo (q8 (fun lo hlo' => hwr ⟨lo, hlo'⟩) id hid)
      · rcases stp.new id pl h1 (hnew e h2).1 with h | ⟨j, pj, j1, j2, j3⟩
        · exact .inl h
        · obtain ⟨eρ, _, eR⟩ := Ren.cut_spec j2
          have hid := r.dom (Nat.le_of_lt hi) eR
          by_cases hwr : ∃ lo, Ws E i lo
          · obtain ⟨lo, hlo'⟩ := hwr
            exact .inr ⟨j, pj, lo, hlo', by rw [← q7 lo hlo']; exact j1, hid, eρ, j3⟩
          · exact absurd j1 (q8 (fun lo hlo' => hwr ⟨lo, hlo'⟩) j hid)
      · have hid := hwlt hA
        obtain ⟨e1, pl', e2⟩ := hnew e hid
        have hb1 := k2.1.hr id pl hb e1 (by rw [q6 id hA]; exact hg)
        have hb2 := stT1.hk.1.hr id pl' hb e2 hg
        exact (hb1.cut hb2).mono hcut rfl
      · have hid := hwlt hA
        exact k2.1.ord id id' pl pl' hb (hnew e hid).1 (hnew e' h').1 (by rw [q6 id hA]; exact hg) hlt heq
    · obtain ⟨_, _, _, _, _, _, _, _, _, hb, _⟩ := hp; cases hb
  · -- it is left out
    have hwant := want_sound hfok (hwq.trans hw) o rfl
    rw [if_neg (by rw [hwant]; simp)]
    refine ⟨fun f _ => Fw_fn ro' f, ρ, ?_⟩
    have hnx' : (H (i + 1)).nx = (H i).nx := by rw [hH]
    refine inv.next r hr hi ho htc hset (fun _ => undef_rel) (fun _ _ => rfl) (Ren.le_refl ρ) inv.dom inv.bnd (Nat.le_refl _) (fun _ _ _ => rfl) (fun id pl h1 h2 e => by omega) (fun id pl hb hA e hg => ?_) (fun id id' pl pl' hb hlt h' hA e e' heq hg => ?_) rfl rfl rfl (Nat.le_refl _)
    · rcases hA with hA | ⟨_, lo, ⟨me, hlo⟩, _⟩
      · omega
      · rw [hE] at hlo; cases hlo
    · rcases hA with hA | ⟨_, lo, ⟨me, hlo⟩, _⟩
      · omega
      · rw [hE] at hlo; cases hlo

/-- How many are not through. -/
def left (n : Nat) (L : Array Bool) : Nat := (List.range n).countP fun j => !L.getD j false
theorem left_set {n : Nat} {L : Array Bool} {i : Nat} (hi : i < n) (hL : i < L.size) (hn : ¬ On L i) : left n (L.setIfInBounds i true) < left n L := by
  have key : ∀ l : List Nat, i ∈ l → l.countP (fun j => !(L.setIfInBounds i true).getD j false) < l.countP (fun j => !L.getD j false) := by
    have mono : ∀ l : List Nat, l.countP (fun j => !(L.setIfInBounds i true).getD j false) ≤ l.countP (fun j => !L.getD j false) := fun l =>
      List.countP_mono_left fun j _ h => by
        have h' : ¬ On (L.setIfInBounds i true) j := by simpa [On] using h
        have : ¬ On L j := fun hh => h' ((On_set hL).2 (.inl hh))
        simpa [On] using this
    intro l
    induction l with
    | nil => intro h; cases h
    | cons x l ih =>
      intro h
      rw [List.countP_cons, List.countP_cons]
      by_cases hx : x = i
      · subst hx
        have h1 : (L.setIfInBounds x true).getD x false = true := (On_set hL).2 (.inr rfl)
        have h2 : L.getD x false = false := by simpa [On] using hn
        rw [h1, h2]
        have := mono l
        simp only [Bool.not_true, Bool.not_false, Bool.false_eq_true, if_false, if_true]
        omega
      · have := ih ((List.mem_cons.1 h).resolve_left fun hh => hx hh.symm)
        have h1 : (L.setIfInBounds i true).getD x false = L.getD x false := getD_set_ne false fun hh => hx hh.symm
        rw [h1]; omega
  exact key _ (List.mem_range.2 hi)

theorem all_on (hok : RegOk ops) (hs : L.size = ops.size) (h : Region.ready .any ops L = []) : ∀ j, j < ops.size → On L j := by
  intro j
  induction j using Nat.strongRecOn with
  | _ j ih =>
    intro hj
    refine Classical.byContradiction fun hn => ?_
    have hj' : j < L.size := by omega
    have hmem : j ∈ Region.ready .any ops L := by
      refine mem_ready.2 ⟨?_, ops[j], Array.getElem?_eq_getElem hj, fun e he hb => ?_⟩
      · have : L.getD j false = false := by simpa [On] using hn
        rw [Array.getD_eq_getD_getElem?, Array.getElem?_eq_getElem hj'] at this ⊢
        simpa using this
      · have hlt := hok.lt j ops[j] e (Array.getElem?_eq_getElem hj) he hb
        exact ih e.on hlt (by omega)
    rw [h] at hmem; cases hmem

theorem draw_ok (T : TabOk P τ) (hc : CallOk P τ call) : DrawOk P τ call := by
  intro rid ops K fr h a w ρ outs ro' hokr st hu
  have hok := regOk hokr
  obtain ⟨F, H, E, rfl, rfl, hstep, _, hsep, hk⟩ := drawK_run ops.toList 0 rfl [] fr h outs hu
  obtain ⟨R, r0, r⟩ := drun T hc st (fun j o ho => hstep j o (Nat.zero_le _) ho) (fun x y hxy hy hc => hsep x y (Nat.zero_le _) hxy hy hc)
  have key : ∀ (fuel : Nat) (L : Array Bool) (ρ1 : Ren) (a1 : Act) (w1 : World), DInv P ops F H E R ρ a w L ρ1 a1 w1 → left ops.size L ≤ fuel → wpAnyIn (Fw ro') 0 P .any ops (QK P τ ρ w (H 0) K outs) fuel L a1 w1 := by
    have fin : ∀ (L : Array Bool) (ρ1 : Ren) (a1 : Act) (w1 : World), DInv P ops F H E R ρ a w L ρ1 a1 w1 → Region.ready .any ops L = [] → QK P τ ρ w (H 0) K outs .normal a1 w1 := by
      intro L ρ1 a1 w1 inv hr
      have hall := all_on hok inv.size hr
      have hcnd : ∀ id, Cnd ops H E L ops.size id := fun id j hj _ => ⟨fun _ => hj, fun _ => hall j hj⟩
      have hlt : ∀ id pl, ρ1 id = some pl → id < (H ops.size).nx := by
        intro id pl e
        rcases inv.made id pl e with h | ⟨j, j1, j2, j3, j4⟩
        · exact Nat.lt_of_lt_of_le h (r.nx_le (Nat.zero_le _) (Nat.le_refl _))
        · exact Nat.lt_of_lt_of_le j4 (r.nx_le j1 (Nat.le_refl _))
      have hle : ρ.le ρ1 := by
        intro id pl e
        have : id < (H 0).nx := Nat.lt_of_not_le fun hh => by rw [st.hk.1.fresh id hh] at e; cases e
        rw [inv.ext id this]; exact e
      have h0n := r.nx_le (Nat.zero_le _) (Nat.le_refl ops.size)
      refine ⟨ρ1, F ops.size, H ops.size, outs, ⟨⟨⟨fun id hid => ?_, fun id pl hb e eH => inv.mem id pl hb _ (Nat.le_refl _) e (hlt id pl e) (hcnd id) eH, inv.bnd, fun x y px py hx ex ey eHx hxy hb => inv.ord x y px py hx _ (Nat.le_refl _) ex ey hxy hb (hlt x px ex) (hcnd x) eHx, fun g hg => ?_⟩, Nat.le_trans r.ng h0n⟩, ⟨?_, fun t v hv => ?_⟩, ?_⟩,
        ⟨⟨inv.ext, inv.gsize, inv.chg, inv.new, h0n, inv.os, inv.out, inv.tape, inv.drawn⟩, h0n, r.lo_le (Nat.zero_le _) (Nat.le_refl _), fun id hid hlo => ?_⟩, fun _ hx => hx, hk⟩
      · cases hρ : ρ1 id with
        | none => rfl
        | some pl => have := hlt id pl hρ; omega
      · rw [inv.ext g (Nat.lt_of_lt_of_le hg r.ng)]; exact st.hk.1.glob g hg
      · show (F ops.size).sz = _
        rw [(r.sz (Nat.le_refl _)).1]; exact inv.sz
      · exact inv.tm t ops.size v (Nat.le_refl _) (fun j hj => ⟨fun _ => let ⟨o, ho, _⟩ := hj; (Array.getElem?_eq_some_iff.1 ho).1, fun hh => hall j hh⟩) hv
      · show DR ρ1 (F ops.size).ds a1.defers
        rw [(r.sz (Nat.le_refl _)).2, inv.ds]; exact st.ds.mono hle
      · refine r.same (Nat.zero_le _) (Nat.le_refl _) hid fun j _ hj hwj => ?_
        obtain ⟨_, lo, hE, hlo'⟩ := hwj
        exact hlo (r.lo_le (p := j + 1) hj (Nat.le_refl _) _ ((r.frm j hj).wr lo hE _ hlo'))
    intro fuel
    induction fuel with
    | zero =>
      intro L ρ1 a1 w1 inv hl
      have hr : Region.ready .any ops L = [] := by
        cases hrr : Region.ready .any ops L with
        | nil => rfl
        | cons i l =>
          have hr : i ∈ Region.ready .any ops L := by rw [hrr]; exact List.mem_cons_self
          obtain ⟨h1, h2, _⟩ := rdy_spec hr
          have := left_set (n := ops.size) (by rw [← inv.size]; exact h1) h1 h2
          omega
      exact ⟨hr, fin L ρ1 a1 w1 inv hr⟩
    | succ fuel ih =>
      intro L ρ1 a1 w1 inv hl
      refine ⟨fin L ρ1 a1 w1 inv, fun i hr => ?_⟩
      obtain ⟨h1, h2, _⟩ := rdy_spec hr
      have hlt := left_set (n := ops.size) (by rw [← inv.size]; exact h1) h1 h2
      refine wpOpIn_mono (fun a2 w2 hh => ?_) (draw_op T hc hok r st.hk.1.glob inv hr)
      obtain ⟨ρ2, inv2⟩ := hh
      exact ih _ ρ2 a2 w2 inv2 (by omega)
  refine wpIn_region_any T.mixed (key _ _ ρ a _ ?_ ?_)
  · have hoff : ∀ j, ¬ On (Array.replicate ops.size false) j := by
      intro j hj
      unfold On at hj
      rw [Array.getD_eq_getD_getElem?] at hj
      by_cases hlt : j < ops.size
      · rw [Array.getElem?_eq_getElem (by simpa using hlt)] at hj; simp at hj
      · rw [Array.getElem?_eq_none (by simpa using hlt)] at hj; simp at hj
    have hlt0 : ∀ id pl, ρ id = some pl → id < (H 0).nx := fun id pl e => Nat.lt_of_not_le fun hh => by rw [st.hk.1.fresh id hh] at e; cases e
    have hnoW : ∀ {m id}, m ≤ ops.size → Cnd ops H E (Array.replicate ops.size false) m id → ∀ j, 0 ≤ j → j < m → ¬ Wr H E j id := fun hm hc j _ hj hw => hoff j ((hc j (by omega) hw).2 hj)
    refine ⟨by simp, fun j o e _ _ _ hj => absurd hj (hoff j), st.fok.1, fun t m v hm hc hv => ?_, rfl, st.hk.1.bnd, fun id pl e => .inl (hlt0 id pl e), fun _ _ => rfl, fun id pl e => ?_, fun id pl hb m hm e hid hc hg => ?_, fun x y px py hx m hm ex ey hxy hb hid hc hg => ?_, fun id id' pl pl' j hj h1 h2 _ e _ _ => ?_, Nat.le_refl _, fun _ _ _ => rfl, fun id pl hid e => ?_, rfl, rfl, rfl, Nat.le_succ _⟩
    · rw [r.tm (Nat.zero_le m) hm fun j _ hj hw => hoff j ((hc j hw).2 hj)] at hv
      exact st.fok.2 t v hv
    · refine ⟨pl, ?_⟩
      rw [r.ren (Nat.zero_le _) (Nat.le_refl _) (hlt0 id pl e), r0]; exact e
    · rw [r.same (Nat.zero_le m) hm (hlt0 id pl e) (hnoW hm hc)] at hg
      exact (st.hk.1.hr id pl hb e hg).mono (Ren.le_refl ρ) rfl
    · rw [r.same (Nat.zero_le m) hm (hlt0 x px ex) (hnoW hm hc)] at hg
      exact st.hk.1.ord x y px py hx ex ey hg hxy hb
    · have := hlt0 id pl e
      have := r.nx_le (Nat.zero_le j) (Nat.le_of_lt hj)
      omega
    · have := hlt0 id pl e; omega
  · unfold left
    exact Nat.le_trans List.countP_le_length (by simp)
end
end Go.Ev
