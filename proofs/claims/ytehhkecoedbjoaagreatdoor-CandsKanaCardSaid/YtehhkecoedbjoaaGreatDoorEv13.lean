/-
  The evaluator of closed runs (a part): EvS29, EvS30, EvS31.
-/
import Derived.Test.YtehhkecoedbjoaaGreatDoorEv12
set_option linter.unusedVariables false
set_option linter.unusedSimpArgs false
set_option linter.unusedSectionVars false
section
/-
  Ranges over a map in whatever order: all ways of the abstract machine.
-/
namespace Go.Ev
section
variable {P : Program} {τ : Tab} {call : CallF} {L : Nat} {ro : Option Nat}

/-- What the machine looks at of an operation that has no guard. -/
def keyOf (o : Oper) : Option Tmp × Op := (o.dst, o.op)
noncomputable def keysK (τ : Tab) (call : CallF) (kp : Value → Fr → Hp → RR) (k : Fr → Hp → RR) : List (Option Tmp × Op) → Fr → Hp → RR
  | [], fr, h => k fr h
  | (d, op) :: l, fr, h => opK τ call fr h op (fun v h' => match fr.set d v with | some fr' => keysK τ call kp k l fr' h' | none => none) (fun v h' => kp v fr h')
def noDefer : Op → Bool
  | .defer _ => false
  | _ => true

theorem regK_keys {ops : List Oper} {kp : Value → Fr → Hp → RR} {k : Fr → Hp → RR} : ∀ (l : List Oper), (l.all fun o => o.guard.isNone && noDefer o.op) = true → ∀ (fr : Fr) (h : Hp), regK τ call ro ops kp k l fr h = keysK τ call kp k (l.map keyOf) fr h
  | [], _, fr, h => rfl
  | o :: l, hg, fr, h => by
    simp only [List.all_cons, Bool.and_eq_true] at hg
    have hgn : o.guard = none := by simpa using hg.1.1
    have ih := regK_keys (kp := kp) (k := k) (ops := ops) l hg.2
    simp only [regK, List.map_cons, keyOf, keysK, hgn, wantB]
    have hop : operK τ call ro fr h o (fun fr' h' => regK τ call ro ops kp k l fr' h') (fun v h' => kp v fr h') =
        opK τ call fr h o.op (fun v h' => match fr.set o.dst v with | some fr' => regK τ call ro ops kp k l fr' h' | none => none) (fun v h' => kp v fr h') := by
      unfold operK
      have hd := hg.1.2
      cases ho : o.op <;> first
        | rfl
        | (rw [ho] at hd; cases hd)
    rw [hop]
    congr 1
    funext v h'
    cases fr.set o.dst v with
    | none => rfl
    | some fr' => exact ih fr' h'

/-- A region in the text's order, by its keys. -/
theorem codeK_region {id : Nat} {ops : Array Oper} (hg : (ops.toList.all fun o => o.guard.isNone && noDefer o.op) = true) (K : Kt) (fr : Fr) (h : Hp) :
    codeK τ call L ro (.region id ops false) K fr h = keysK τ call K.p K.n (ops.toList.map keyOf) fr h := regK_keys ops.toList hg fr h

theorem kAll_good {G : Out → Prop} {k : Value → Hp → RR} : ∀ (l : List (Value × Hp)), (∀ x ∈ l, ∃ o', k x.1 x.2 = some o' ∧ ∀ o ∈ o', G o) → ∃ outs, kAll k l = some outs ∧ ∀ o ∈ outs, G o
  | [], _ => ⟨[], rfl, fun o ho => by cases ho⟩
  | (v, h) :: l, H => by
    obtain ⟨o1, h1, g1⟩ := H (v, h) List.mem_cons_self
    obtain ⟨o2, h2, g2⟩ := kAll_good l fun x hx => H x (List.mem_cons_of_mem _ hx)
    refine ⟨o1 ++ o2, by simp only [kAll, joinR]; simp only [] at h1; rw [h1, h2], fun o ho => ?_⟩
    rcases List.mem_append.1 ho with ho | ho
    · exact g1 o ho
    · exact g2 o ho

theorem opK_next {fr : Fr} {h : Hp} {it : Operand} {s : Bool} {v : Value} {l : List (Value × Hp)} {k kp : Value → Hp → RR} (hv : ev τ fr it = some v) (hn : nextB v s h = some l) {G : Out → Prop}
    (H : ∀ x ∈ l, ∃ o', k x.1 x.2 = some o' ∧ ∀ o ∈ o', G o) : ∃ outs, opK τ call fr h (.next it s) k kp = some outs ∧ ∀ o ∈ outs, G o := by
  simp only [opK, hv, hn]
  match l, H with
  | [], H => exact kAll_good [] H
  | [(v', h')], H => exact H (v', h') List.mem_cons_self
  | x :: y :: l, H => exact kAll_good (x :: y :: l) H

/-- A frame with a value laid into it. -/
noncomputable def Fr.lay (fr : Fr) (t : Tmp) (v : Value) : Fr := ⟨fr.tm.ins t v, fr.sz, fr.ds⟩
theorem Fr.set_lay {fr : Fr} {t : Tmp} {v : Value} (h : t < fr.sz) : fr.set (some t) v = some (fr.lay t v) := by
  unfold Fr.set
  have : Nat.blt t fr.sz = true := by rw [Nat.blt_eq]; exact h
  simp only [this]; rfl
theorem Fr.lay_sz (fr : Fr) (t : Tmp) (v : Value) : (fr.lay t v).sz = fr.sz := rfl
theorem Fr.lay_ds (fr : Fr) (t : Tmp) (v : Value) : (fr.lay t v).ds = fr.ds := rfl
theorem Fr.lay_get (fr : Fr) (t : Tmp) (v : Value) (j : Tmp) : (fr.lay t v).tm.get j = if j = t then some v else fr.tm.get j := T.get_ins _ _ _ _

/-- The ways of a step of a range over a map. -/
theorem next_ways {r m since last : Nat} {h : Hp} {es D : List MapEntry} {ck : Nat} (hr : h.t.get r = some (.miter (some m) since (D.map (·.born)) last)) (hm : h.t.get m = some (.map es ck))
    (hlast : D = [] ∨ last = ck) (hck : ∀ e ∈ es, e.born < ck) (hs : ∀ e ∈ es, e.born < since) :
    nextB (ptr r 0) false h = some (match es.filter (fun e => !(D.map (·.born)).contains e.born) with
      | [] => [(.tuple #[.bool false], h)]
      | l => l.map fun e => (.tuple #[.bool true, e.key, e.val], h.put r (.miter (some m) since (D.map (·.born) ++ [e.born]) ck))) := by
  have h1 : (!(D.map (·.born)).isEmpty && !es.isEmpty && es.all (fun e => Nat.ble last e.born)) = false := by
    rcases hlast with rfl | rfl
    · rfl
    · cases es with
      | nil => cases D <;> rfl
      | cons e l =>
        have : Nat.ble last e.born = false := Bool.eq_false_iff.2 fun hh => by have := Nat.le_of_ble_eq_true hh; have := hck e List.mem_cons_self; omega
        simp [this]
  have h2 : es.all (fun e => Nat.blt e.born since) = true := List.all_eq_true.2 fun e he => by rw [Nat.blt_eq]; exact hs e he
  simp only [nextB, ptr, hr, hm, h1, h2, cond_true, cond_false]
  cases es.filter (fun e => !(D.map (·.born)).contains e.born) <;> rfl

/-! ### a loop over a map -/
def mapLoopC (b b2 i1 : Nat) (A : Array Oper) (c : Tmp) (body : Code) : Code :=
  .block b (.loop (.seq (.region i1 A false) (.seq (.cond (.tmp c) .skip (.exit b)) (.block b2 body))))
/-- The entries that are still to come. -/
def remE (es D : List MapEntry) : List MapEntry := es.filter fun e => !(D.map (·.born)).contains e.born

theorem remE_lt {es D : List MapEntry} {e : MapEntry} (he : e ∈ remE es D) : (remE es (D ++ [e])).length < (remE es D).length := by
  have h1 : remE es (D ++ [e]) = (remE es D).filter fun x => !(x.born == e.born) := by
    unfold remE
    rw [List.filter_filter]
    apply List.filter_congr
    intro x _
    simp only [List.map_append, List.map_cons, List.map_nil, List.contains_eq_mem, List.mem_append, List.mem_singleton]
    by_cases h1 : x.born ∈ D.map (·.born) <;> by_cases h2 : x.born = e.born <;> simp [h1, h2]
  rw [h1]
  exact List.length_filter_lt_length_iff_exists.2 ⟨e, he, by simp⟩

theorem nodup_of_map {α β : Type} {f : α → β} : ∀ {l : List α}, (l.map f).Nodup → l.Nodup
  | [], _ => List.nodup_nil
  | a :: l, h => by
    rw [List.map_cons, List.nodup_cons] at h
    exact List.nodup_cons.2 ⟨fun ha => h.1 (List.mem_map.2 ⟨a, ha, rfl⟩), nodup_of_map h.2⟩
theorem perm_of_done {es D : List MapEntry} (hn : (es.map (·.born)).Nodup) (hd : (D.map (·.born)).Nodup) (hs : ∀ e ∈ D, e ∈ es) (hr : remE es D = []) : D.Perm es := by
  have e1 : es.Nodup := nodup_of_map hn
  have d1 : D.Nodup := nodup_of_map hd
  refine (List.perm_ext_iff_of_nodup d1 e1).2 fun x => ⟨fun h => hs x h, fun h => ?_⟩
  have hx : x.born ∈ D.map (·.born) := Classical.byContradiction fun hh => by
    have : x ∈ remE es D := List.mem_filter.2 ⟨h, by simpa using hh⟩
    rw [hr] at this; cases this
  obtain ⟨y, hy, hyb⟩ := List.mem_map.1 hx
  have : y = x := by
    have hinj : ∀ (l : List MapEntry), (l.map (·.born)).Nodup → ∀ a ∈ l, ∀ b ∈ l, a.born = b.born → a = b := by
      intro l
      induction l with
      | nil => intro _ a ha; cases ha
      | cons z l ih =>
        intro hl a ha b hb hab
        rw [List.map_cons, List.nodup_cons] at hl
        rcases List.mem_cons.1 ha with ha1 | ha1
        · rcases List.mem_cons.1 hb with hb1 | hb1
          · rw [ha1, hb1]
          · rw [ha1] at hab; exact (hl.1 (List.mem_map.2 ⟨b, hb1, hab.symm⟩)).elim
        · rcases List.mem_cons.1 hb with hb1 | hb1
          · rw [hb1] at hab; exact (hl.1 (List.mem_map.2 ⟨a, ha1, hab⟩)).elim
          · exact ih hl.2 a ha1 b hb1 hab
    exact hinj es hn y (hs y hy) x h hyb
  rw [← this]; exact hy

/-- A range over a map: if each round keeps the invariant, whatever entry comes out, then so it ends. -/
theorem map_loop {b b2 i1 : Nat} {A : Array Oper} {tn c ti : Tmp} {body : Code} {r m since : Nat} {es : List MapEntry} {ck : Nat} (hA : A.toList.map keyOf = [(some tn, .next (.tmp ti) false), (some c, .extract (.tmp tn) 0)])
    (hAg : (A.toList.all fun o => o.guard.isNone && noDefer o.op) = true) (hnodup : (es.map (·.born)).Nodup) (hck : ∀ e ∈ es, e.born < ck) (hsince : ∀ e ∈ es, e.born < since)
    (Inv : List MapEntry → Fr → Hp → Prop) {K0 : Kt} {G : Out → Prop}
    (hI : ∀ D fr h, Inv D fr h → fr.tm.get ti = some (ptr r 0) ∧ (∃ last, h.t.get r = some (.miter (some m) since (D.map (·.born)) last) ∧ (D = [] ∨ last = ck)) ∧ h.t.get m = some (.map es ck) ∧ tn < fr.sz ∧ c < fr.sz)
    (hbody : ∀ D e fr h, Inv D fr h → e ∈ es → e.born ∉ D.map (·.born) → ∃ fr2 h2, Inv (D ++ [e]) fr2 h2 ∧ ∀ K : Kt,
      codeK τ call L ro body K ((fr.lay tn (.tuple #[.bool true, e.key, e.val])).lay c (.bool true)) (h.put r (.miter (some m) since (D.map (·.born) ++ [e.born]) ck)) = K.n fr2 h2)
    (hexit : ∀ D fr h, Inv D fr h → D.Perm es → ∃ o', K0.n ((fr.lay tn (.tuple #[.bool false])).lay c (.bool false)) h = some o' ∧ ∀ o ∈ o', G o)
    {fr : Fr} {h : Hp} (h0 : Inv [] fr h) (hL : es.length < L) : ∃ outs, codeK τ call L ro (mapLoopC b b2 i1 A c body) K0 fr h = some outs ∧ ∀ o ∈ outs, G o := by
  -- the loop's continuations
  let K1 : Kt := { n := K0.n, x := fun id' fr h => bif Nat.beq id' b then K0.n fr h else K0.x id' fr h, r := K0.r, p := K0.p }
  have hcode : codeK τ call L ro (mapLoopC b b2 i1 A c body) K0 fr h = loopK (codeK τ call L ro (.seq (.region i1 A false) (.seq (.cond (.tmp c) .skip (.exit b)) (.block b2 body)))) L K1 fr h := rfl
  rw [hcode]
  have key : ∀ (n fuel : Nat) (D : List MapEntry) (fr : Fr) (h : Hp), Inv D fr h → (D.map (·.born)).Nodup → (∀ e ∈ D, e ∈ es) → (remE es D).length = n → n < fuel →
      ∃ outs, loopK (codeK τ call L ro (.seq (.region i1 A false) (.seq (.cond (.tmp c) .skip (.exit b)) (.block b2 body)))) fuel K1 fr h = some outs ∧ ∀ o ∈ outs, G o := by
    intro n
    induction n using Nat.strongRecOn with
    | _ n ih =>
      intro fuel D fr h hinv hd hs hn hf
      obtain ⟨fuel, rfl⟩ : ∃ f, fuel = f + 1 := ⟨fuel - 1, by omega⟩
      obtain ⟨i1', ⟨last, i2, i3⟩, i4, i5, i6⟩ := hI D fr h hinv
      have hw := next_ways i2 i4 i3 hck hsince
      let K2 : Kt := { n := fun fr h => loopK (codeK τ call L ro (.seq (.region i1 A false) (.seq (.cond (.tmp c) .skip (.exit b)) (.block b2 body)))) fuel K1 fr h, x := K1.x, r := K1.r, p := K1.p }
      let K3 : Kt := { n := fun fr h => codeK τ call L ro (.seq (.cond (.tmp c) .skip (.exit b)) (.block b2 body)) K2 fr h, x := K2.x, r := K2.r, p := K2.p }
      have hstep : loopK (codeK τ call L ro (.seq (.region i1 A false) (.seq (.cond (.tmp c) .skip (.exit b)) (.block b2 body)))) (fuel + 1) K1 fr h = codeK τ call L ro (.region i1 A false) K3 fr h := rfl
      rw [hstep, codeK_region hAg, hA]
      simp only [keysK]
      refine opK_next (v := ptr r 0) (show ev τ fr (.tmp ti) = some (ptr r 0) from i1') hw fun x hx => ?_
      -- what follows the test
      have htest : ∀ (t : Bool) (v : Value) (h' : Hp) (rest : List Value), v = .tuple ⟨.bool t :: rest⟩ →
          (match fr.set (some tn) v with
            | some fr' => opK τ call fr' h' (.extract (.tmp tn) 0) (fun v h' => match fr'.set (some c) v with | some fr' => K3.n fr' h' | none => none) (fun v h' => K3.p v fr' h')
            | none => none) = K3.n ((fr.lay tn v).lay c (.bool t)) h' := by
        intro t v h' rest hv
        rw [Fr.set_lay i5]
        simp only []
        rw [opK_leaf (by simp) (by simp) (by simp)]
        have he : ev τ (fr.lay tn v) (.tmp tn) = some v := by show (fr.lay tn v).tm.get tn = _; rw [Fr.lay_get, if_pos rfl]
        simp only [leafB, he, hv]
        have : (⟨Value.bool t :: rest⟩ : Array Value).toList[0]? = some (.bool t) := rfl
        simp only [this, ok1]
        subst hv
        have h6 : c < (fr.lay tn (.tuple ⟨.bool t :: rest⟩)).sz := i6
        rw [he]
        simp only [this]
        rw [Fr.set_lay h6]
      have hcond : ∀ (t : Bool) (v : Value) (h' : Hp), K3.n ((fr.lay tn v).lay c (.bool t)) h' = (match t with
          | true => codeK τ call L ro (.block b2 body) K2 ((fr.lay tn v).lay c (.bool t)) h'
          | false => K0.n ((fr.lay tn v).lay c (.bool t)) h') := by
        intro t v h'
        have he : ev τ ((fr.lay tn v).lay c (.bool t)) (.tmp c) = some (.bool t) := by show ((fr.lay tn v).lay c (.bool t)).tm.get c = _; rw [Fr.lay_get, if_pos rfl]
        show condK (codeK τ call L ro .skip) (codeK τ call L ro (.exit b)) _ _ h' (ev τ ((fr.lay tn v).lay c (.bool t)) (.tmp c)) = _
        rw [he]
        cases t with
        | true => rfl
        | false =>
          show (bif Nat.beq b b then K0.n _ h' else _) = _
          have : Nat.beq b b = true := by simp
          rw [this]; rfl
      have hx' : (remE es D = [] ∧ x = (.tuple #[.bool false], h)) ∨ ∃ e ∈ remE es D, x = (.tuple #[.bool true, e.key, e.val], h.put r (.miter (some m) since (D.map (·.born) ++ [e.born]) ck)) := by
        split at hx
        · rename_i hr
          exact .inl ⟨hr, List.mem_singleton.1 hx⟩
        · obtain ⟨e, he, rfl⟩ := List.mem_map.1 hx
          exact .inr ⟨e, he, rfl⟩
      rcases hx' with ⟨hrem, rfl⟩ | ⟨e, he, rfl⟩
      · -- the end
        obtain ⟨o', e1, e2⟩ := hexit D fr h hinv (perm_of_done hnodup hd hs hrem)
        exact ⟨o', by rw [htest false _ _ [] rfl, hcond]; exact e1, e2⟩
      · -- a round
        have hem := List.mem_filter.1 he
        have hnb : e.born ∉ D.map (·.born) := by simpa using hem.2
        obtain ⟨fr2, h2, f1, f2⟩ := hbody D e fr h hinv hem.1 hnb
        have hlt := remE_lt he
        obtain ⟨outs, g1, g2⟩ := ih (remE es (D ++ [e])).length (by omega) fuel (D ++ [e]) fr2 h2 f1 (by
            rw [List.map_append, List.nodup_append]
            refine ⟨hd, by simp, fun a ha b hb hab => ?_⟩
            simp only [List.map_cons, List.map_nil, List.mem_singleton] at hb
            subst hb; subst hab; exact hnb ha) (fun x hx => by
            rcases List.mem_append.1 hx with hx | hx
            · exact hs x hx
            · rw [List.mem_singleton.1 hx]; exact hem.1) rfl (by omega)
        refine ⟨outs, ?_, g2⟩
        rw [htest true _ _ [e.key, e.val] rfl, hcond]
        show codeK τ call L ro body { n := K2.n, x := _, r := K2.r, p := K2.p } _ _ = some outs
        rw [f2]; exact g1
  exact key (remE es []).length L [] fr h h0 (by simp) (fun e he => by cases he) rfl (by
    have : (remE es []).length ≤ es.length := List.length_filter_le _ _
    omega)
end
end Go.Ev
end

section
/-
  From all ways of the abstract machine to one end; steps of keys.
-/
namespace Go.Ev
section
variable {P : Program} {τ : Tab} {ρ : Ren} {h : Hp} {w : World} {call : CallF} {L : Nat} {ro : Option Nat}

/-- Less is known of a block. -/
inductive WkB : HB → HB → Prop
  | same (b) : WkB b b
  | dead (b) : WkB b .dead
  | umap {es2 : List MapEntry} {ck : Nat} {es : List (Value × Value)} : es.all (fun p => plainV p.1 && plainV p.2) = true → (es2.map fun e => (e.key, e.val)).Perm es → WkB (.map es2 ck) (.umap es)
  | ucells {c : T Value} {n : Nat} {e : TypeId} {x : Bool} {gs gs' : List (List Value)} : gs.all (fun g => g.all plainCell) = true → gs'.Perm gs → n = gs'.flatten.length → (∀ (i : Nat) v, gs'.flatten[i]? = some v → c.get i = some v) →
      WkB (.cells c n e 0 0 x) (.ucells gs e)

theorem VR.plainV_eq {v v' : Value} (h : VR ρ v v') (hp : plainV v = true) : v' = v := by
  unfold plainV at hp
  split at hp
  · rename_i cs; obtain ⟨l⟩ := cs
    cases h with | agg hl => rw [hl.plain_eq hp]
  · rename_i cs; obtain ⟨l⟩ := cs
    cases h with | tuple hl => rw [hl.plain_eq hp]
  · cases h with | iface hr => rw [hr.plainCell_eq hp]
  · exact h.plainCell_eq hp
theorem ER.plain_map : ∀ {l l' : List MapEntry}, ER ρ l l' → (∀ e ∈ l, plainV e.key = true ∧ plainV e.val = true) → l'.map (fun e => (e.key, e.val)) = l.map fun e => (e.key, e.val)
  | _, _, .nil, _ => rfl
  | _, _, .cons a b _ r, h => by
    rw [List.map_cons, List.map_cons, a.plainV_eq (h _ List.mem_cons_self).1, b.plainV_eq (h _ List.mem_cons_self).2, ER.plain_map r fun e he => h e (List.mem_cons_of_mem _ he)]

theorem WkB.br {hb'' hb : HB} (hw : WkB hb'' hb) {pl : Pl} (hr : BR P ρ pl w hb'') : BR P ρ pl w hb := by
  cases hw with
  | same => exact hr
  | dead => trivial
  | @umap es2 ck es h1 h2 =>
    obtain ⟨es', g1, g2⟩ := hr
    refine ⟨h1, es', ck, g1, ?_⟩
    rw [ER.plain_map g2 fun e he => by
      have := List.all_eq_true.1 h1 (e.key, e.val) (h2.subset (List.mem_map.2 ⟨e, he, rfl⟩))
      simpa using this]
    exact h2
  | @ucells c n e x gs gs' h1 h2 h3 h4 =>
    obtain ⟨C, fz, g1, g2, g3, g4, g5, g6⟩ := hr
    refine ⟨h1, C, fz, gs', g1, h2, ?_, fun i hi => by rw [← h3]; exact g3 i hi, fun i v hv => ?_⟩
    · rcases g5 with g | ⟨g, _⟩ | ⟨k1, k2, k3⟩
      · exact g
      · cases g
      · omega
    · obtain ⟨_, v', k1, k2⟩ := g4 i v (h4 i v hv)
      obtain ⟨g, hg1, hg2⟩ := List.mem_flatten.1 (List.mem_of_getElem? hv)
      have hp := List.all_eq_true.1 (List.all_eq_true.1 h1 g (h2.subset hg1)) v hg2
      rw [k1, k2.plainCell_eq hp]
theorem WkB.live {hb'' hb : HB} (hw : WkB hb'' hb) (hl : hb''.live = false) : hb.live = false := by
  cases hw with
  | same => exact hl
  | dead => rfl
  | umap => cases hl
  | ucells => cases hl

structure Wk (h : Hp) (fr'' : Fr) (h'' : Hp) (fr' : Fr) (h' : Hp) : Prop where
  sz : fr'.sz = fr''.sz
  ds : fr'.ds = fr''.ds
  tm : ∀ t v, fr'.tm.get t = some v → fr''.tm.get t = some v
  nx : h'.nx = h''.nx
  lo : h'.lo ≤ h''.lo
  mem : ∀ id hb, id < h'.nx → h'.t.get id = some hb → ∃ hb'', h''.t.get id = some hb'' ∧ WkB hb'' hb
  af : AF h h'

theorem Wk.st {fr'' fr' : Fr} {h'' h' : Hp} {a : Act} (hw : Wk h fr'' h'' fr' h') (st : St P τ ρ fr'' h'' a w) : St P τ ρ fr' h' a w := by
  have hlt : ∀ id pl, ρ id = some pl → id < h'.nx := fun id pl e => Nat.lt_of_not_le fun hh => by rw [st.hk.1.fresh id (by rw [← hw.nx]; exact hh)] at e; cases e
  refine ⟨⟨⟨fun id hid => st.hk.1.fresh id (by rw [← hw.nx]; exact hid), fun id pl hb e eH => ?_, st.hk.1.bnd, fun i j pi pj hi ei ej eHi hij hb => ?_, st.hk.1.glob⟩, by rw [hw.nx]; exact st.hk.2⟩, ⟨?_, fun i v hv => st.fok.2 i v (hw.tm i v hv)⟩, by rw [hw.ds]; exact st.ds⟩
  · obtain ⟨hb'', g1, g2⟩ := hw.mem id hb (hlt id pl e) eH
    exact g2.br (st.hk.1.hr id pl hb'' e g1)
  · obtain ⟨hb'', g1, g2⟩ := hw.mem i hi (hlt i pi ei) eHi
    exact g2.live (st.hk.1.ord i j pi pj hb'' ei ej g1 hij hb)
  · rw [hw.sz]; exact st.fok.1

noncomputable abbrev noCall : CallF := fun _ _ _ _ _ => none
theorem noCall_ok : CallOk P τ noCall := fun _ _ _ _ _ _ _ _ _ _ _ _ _ hu => by cases hu
abbrev endKt : Kt := { n := fun fr h => some [.frm fr h], x := fun _ _ _ => none, r := fun _ _ => none, p := fun _ _ _ => none }

/-- A piece of code whose ways all end in a state that is known to be like the one. -/
theorem hook_ways (T : TabOk P τ) {c : Code} (hcr : CR P c) {fr fr' : Fr} {h' : Hp} {a : Act} {outs' : List Out} (st : St P τ ρ fr h a w) (hu : codeK τ noCall L none c endKt fr h = some outs')
    (hg : ∀ o ∈ outs', ∃ fr'' h'', o = .frm fr'' h'' ∧ Wk h fr'' h'' fr' h') (K : Kt) (outs : List Out) (hK : K.n fr' h' = some outs) : c.wpIn (Fw none) 0 P (QK P τ ρ w h K outs) a w := by
  refine wpIn_mono (code_sound T noCall_ok (draw_ok T noCall_ok) L c hcr (ro := none) (ro' := none) st trivial hu) fun e a1 w1 hq => ?_
  obtain ⟨ρ1, fr1, h1, o1, k1, k2, k3, k4⟩ := hq
  cases e with
  | normal =>
    simp only [Option.some.injEq] at k4; subst k4
    obtain ⟨fr'', h'', e1, e2⟩ := hg _ (k3 (List.mem_singleton.2 rfl))
    cases e1
    exact ⟨ρ1, fr', h', outs, e2.st k1, ⟨by rw [e2.nx]; exact k2.stp.lower e2.lo, e2.af⟩, fun _ hx => hx, hK⟩
  | exit id => cases k4
  | ret => cases k4
  | panic ch => obtain ⟨_, _, _, _, k4⟩ := k4; cases k4
  | goto l => exact k4.elim
  | outgrown => exact k4.elim

/-! ### steps -/
def leafy : Op → Bool
  | .call _ | .next .. | .panic _ => false
  | _ => true
theorem opK_leafy {o : Op} (hl : leafy o = true) {fr : Fr} {h : Hp} {k kp : Value → Hp → RR} : opK τ call fr h o k kp = (match leafB τ fr h o with | some (v, h') => k v h' | none => none) :=
  opK_leaf (fun c e => by subst e; cases hl) (fun i s e => by subst e; cases hl) (fun x e => by subst e; cases hl)
theorem keysK_lay {kp : Value → Fr → Hp → RR} {k : Fr → Hp → RR} {t : Tmp} {op : Op} {l : List (Option Tmp × Op)} {fr : Fr} {h h' : Hp} {v : Value} (hl : leafy op = true) (hv : leafB τ fr h op = some (v, h')) (ht : t < fr.sz) :
    keysK τ call kp k ((some t, op) :: l) fr h = keysK τ call kp k l (fr.lay t v) h' := by
  simp only [keysK]
  rw [opK_leafy hl, hv]
  simp only []
  rw [Fr.set_lay ht]
theorem keysK_none {kp : Value → Fr → Hp → RR} {k : Fr → Hp → RR} {op : Op} {l : List (Option Tmp × Op)} {fr : Fr} {h h' : Hp} {v : Value} (hl : leafy op = true) (hv : leafB τ fr h op = some (v, h')) :
    keysK τ call kp k ((none, op) :: l) fr h = keysK τ call kp k l fr h' := by
  simp only [keysK]
  rw [opK_leafy hl, hv]
  rfl
theorem keysK_builtin {kp : Value → Fr → Hp → RR} {k : Fr → Hp → RR} {t : Tmp} {b : Builtin} {xs : Array Operand} {ts : Array TypeId} {l : List (Option Tmp × Op)} {fr : Fr} {h h' : Hp} {vs : List Value} {v : Value}
    (hx : evs τ fr xs.toList = some vs) (hv : builtinB τ b ts.toList vs h = some (v, h')) (ht : t < fr.sz) :
    keysK τ call kp k ((some t, .call ⟨.builtin b, xs, ts⟩) :: l) fr h = keysK τ call kp k l (fr.lay t v) h' := by
  simp only [keysK, opK, callB, hx, hv]
  rw [Fr.set_lay ht]
theorem leaf_move {fr : Fr} {h : Hp} {x : Operand} {v : Value} (hx : ev τ fr x = some v) : leafB τ fr h (.move x) = some (v, h) := by simp only [leafB, hx, ok1]
theorem leaf_assign {fr : Fr} {h : Hp} {x : Operand} {v : Value} (hx : ev τ fr x = some v) : leafB τ fr h (.assign x) = some (v, h) := by simp only [leafB, hx, ok1]
theorem leaf_extract {fr : Fr} {h : Hp} {x : Operand} {i : Nat} {vs : List Value} {v : Value} (hx : ev τ fr x = some (.tuple ⟨vs⟩)) (hi : vs[i]? = some v) : leafB τ fr h (.extract x i) = some (v, h) := by simp only [leafB, hx, hi, ok1]
theorem ev_lay_same {fr : Fr} {t : Tmp} {v : Value} : ev τ (fr.lay t v) (.tmp t) = some v := by show (fr.lay t v).tm.get t = _; rw [Fr.lay_get, if_pos rfl]
theorem ev_lay_ne {fr : Fr} {t j : Tmp} {v : Value} (h : j ≠ t) : ev τ (fr.lay t v) (.tmp j) = ev τ fr (.tmp j) := by show (fr.lay t v).tm.get j = fr.tm.get j; rw [Fr.lay_get, if_neg h]

theorem least_ge {a i j : Nat} (hi : a ≤ i) (hj : a ≤ j) : a ≤ least i j := by unfold least; cases Nat.ble i j <;> assumption
theorem ble_f {a b : Nat} (h : Nat.ble a b = false) : b < a := by
  rcases Nat.lt_or_ge b a with h1 | h1
  · exact h1
  · rw [Nat.ble_eq_true_of_le h1] at h; cases h
theorem beq_f {a b : Nat} (h : Nat.beq a b = false) : a ≠ b := fun hh => by rw [hh] at h; simp at h
/-- What takes in two blocks takes in all from the later one on. -/
theorem two_up {s : WS} {a b x : Nat} (ha : s.has a) (hb : s.has b) (h : a < b) (hx : b ≤ x) : s.has x := by
  cases s with
  | no => exact ha.elim
  | one c => have ha : a = c := ha; have hb : b = c := hb; omega
  | rest c => have ha : c ≤ a := ha; show c ≤ x; omega
  | pair c lo =>
    have ha : a = c ∨ lo ≤ a := ha
    have hb : b = c ∨ lo ≤ b := hb
    show x = c ∨ lo ≤ x
    omega
/-- What takes in what has been written takes in one block more that it holds. -/
theorem lower_cover {s0 s : WS} {i : Nat} (h : s0 ≤ s) (hi : s0.has i) : s0 ≤ lower s i := by
  cases s with
  | no => intro x hx; have hx : x = i := hx; subst hx; exact hi
  | one b =>
    have hb : s0.has b := h b rfl
    rw [lower_one]
    cases e : Nat.beq b i with
    | true => exact h
    | false =>
      have hne := beq_f e
      cases e2 : Nat.ble b i with
      | true =>
        have := Nat.le_of_ble_eq_true e2
        exact fun x (hx : x = b ∨ i ≤ x) => hx.elim (fun hx => hx ▸ hb) fun hx => two_up hb hi (by omega) hx
      | false =>
        have := ble_f e2
        exact fun x (hx : x = i ∨ b ≤ x) => hx.elim (fun hx => hx ▸ hi) fun hx => two_up hi hb (by omega) hx
  | rest lo =>
    rw [lower_rest]
    cases e2 : Nat.ble lo i with
    | true => exact h
    | false => exact fun x (hx : x = i ∨ lo ≤ x) => hx.elim (fun hx => hx ▸ hi) fun hx => h x hx
  | pair b lo =>
    have hb : s0.has b := h b (Or.inl rfl)
    rw [lower_pair]
    cases e : (Nat.beq b i || Nat.ble lo i) with
    | true => exact h
    | false =>
      have hne : b ≠ i := beq_f (by cases h : Nat.beq b i with
        | true => rw [h] at e; cases e
        | false => rfl)
      cases e2 : Nat.ble b i with
      | true =>
        have := Nat.le_of_ble_eq_true e2
        exact fun x (hx : x = b ∨ i ≤ x) => hx.elim (fun hx => hx ▸ hb) fun hx => two_up hb hi (by omega) hx
      | false =>
        have hlt := ble_f e2
        intro x hx
        have hx : x = i ∨ least b lo ≤ x := hx
        rcases hx with hx | hx
        · exact hx ▸ hi
        · unfold least at hx
          cases e3 : Nat.ble b lo with
          | true => rw [e3] at hx; exact two_up hi hb hlt hx
          | false => rw [e3] at hx; exact h x (Or.inr hx)
end
end Go.Ev
end

section
/-
  kana.Full's loop does what it is summed up to.
-/
namespace Go.Ev
theorem asc_spec {ck : Nat} : ∀ (l : List MapEntry) (lo : Nat), ascB ck lo l = true → (l.map (·.born)).Nodup ∧ ∀ e ∈ l, lo ≤ e.born ∧ e.born < ck
  | [], _, _ => ⟨by simp, fun e he => by cases he⟩
  | e :: l, lo, h => by
    simp only [ascB, Bool.and_eq_true] at h
    have h1 := Nat.le_of_ble_eq_true h.1.1
    have h2 : e.born < ck := by have := h.1.2; rwa [Nat.blt_eq] at this
    obtain ⟨i1, i2⟩ := asc_spec l _ h.2
    refine ⟨?_, fun x hx => ?_⟩
    · rw [List.map_cons, List.nodup_cons]
      refine ⟨fun hm => ?_, i1⟩
      obtain ⟨x, hx, hxe⟩ := List.mem_map.1 hm
      have := (i2 x hx).1; omega
    · rcases List.mem_cons.1 hx with rfl | hx
      · exact ⟨h1, h2⟩
      · have := i2 x hx; exact ⟨by omega, this.2⟩
theorem eqS_refl : ∀ a : List UInt8, eqS a a = true
  | [] => rfl
  | x :: a => by simp [eqS, eqS_refl a]
theorem dist_spec : ∀ {l : List (List UInt8)}, distS l = true → ∀ (i j : Nat) a b, i < j → l[i]? = some a → l[j]? = some b → eqS a b = false
  | [], _, i, j, a, b, _, h, _ => by simp at h
  | x :: l, hd, i, j, a, b, hij, hi, hj => by
    simp only [distS, Bool.and_eq_true] at hd
    obtain ⟨j, rfl⟩ : ∃ k, j = k + 1 := ⟨j - 1, by omega⟩
    have hj : l[j]? = some b := by simpa using hj
    cases i with
    | zero =>
      simp at hi; subst hi
      have := List.all_eq_true.1 hd.1 b (List.mem_of_getElem? hj)
      simpa using this
    | succ i => exact dist_spec hd.2 i j a b (by omega) (by simpa using hi) hj

section
variable {P : Program} {τ : Tab} {L : Nat}

theorem find_none {kt : TypeId} (hkt : τ.ds.get kt = some .string) {s : ByteArray} : ∀ (l : List MapEntry) (i : Nat), (∀ e ∈ l, ∃ s', e.key = .string s' ∧ eqS s.data.toList s'.data.toList = false) → findB τ kt (.string s) l i = some none
  | [], _, _ => rfl
  | e :: l, i, h => by
    obtain ⟨s', hk, hne⟩ := h e List.mem_cons_self
    have he : eqB τ Op.maxDepth kt (.string s) e.key = some false := by
      have : Op.maxDepth = Op.maxDepth - 1 + 1 := by decide
      rw [this]
      simp only [eqB, hkt, hk, hne]
    simp only [findB, he]
    exact find_none hkt l (i + 1) fun x hx => h x (List.mem_cons_of_mem _ hx)

/-- What the parts of kana.Full's loop must look like. -/
structure FullLoop (τ : Tab) (A1 A2 A3 : Array Oper) (tr ts tm : TypeId) : Prop where
  a1 : A1.toList.map keyOf = [(some 21, .next (.tmp 20) false), (some 22, .extract (.tmp 21) 0)]
  g1 : (A1.toList.all fun o => o.guard.isNone && noDefer o.op) = true
  a2 : A2.toList.map keyOf = [(some 23, .entry (.tmp 20)), (some 24, .extract (.tmp 23) 0), (some 25, .extract (.tmp 23) 1), (some 4, .assign (.tmp 24)), (some 5, .assign (.tmp 25))]
  g2 : (A2.toList.all fun o => o.guard.isNone && noDefer o.op) = true
  a3 : A3.toList.map keyOf = [(some 26, .move (.tmp 3)), (some 27, .move (.tmp 5)), (some 28, .move (.tmp 4)), (some 29, .convert tr ts (.tmp 28)), (none, .mapUpdate tm (.tmp 26) (.tmp 27) (.tmp 29))]
  g3 : (A3.toList.all fun o => o.guard.isNone && noDefer o.op) = true
  tr : ∃ d, τ.ds.get tr = some d
  ts : τ.ds.get ts = some .string
  tm : ∃ kt et, τ.ds.get tm = some (.map kt et) ∧ τ.ds.get kt = some .string

theorem find_born {es : List MapEntry} {e : MapEntry} (hn : (es.map (·.born)).Nodup) (he : e ∈ es) : es.find? (fun x => x.born == e.born) = some e := by
  induction es with
  | nil => cases he
  | cons x es ih =>
    rw [List.map_cons, List.nodup_cons] at hn
    rw [List.find?_cons]
    rcases List.mem_cons.1 he with rfl | he'
    · simp
    · have : (x.born == e.born) = false := by
        refine beq_eq_false_iff_ne.2 fun hh => hn.1 (List.mem_map.2 ⟨e, he', hh.symm⟩)
      rw [this]
      exact ih hn.2 he'
theorem entry_at {r m since ck : Nat} {D es : List MapEntry} {e : MapEntry} {h : Hp} (hr : h.t.get r = some (.miter (some m) since (D.map (·.born) ++ [e.born]) ck)) (hm : h.t.get m = some (.map es ck))
    (hn : (es.map (·.born)).Nodup) (he : e ∈ es) : entryB (ptr r 0) h = some (.tuple #[e.key, e.val]) := by
  have : Nat.beq ck ck = true := by simp
  simp only [entryB, ptr, hr, List.getLast?_concat, hm, this, cond_true, find_born hn he]

theorem imgs_map : ∀ {es : List MapEntry} {im : List (Value × Value)}, imgsF es = some im → (∀ e ∈ es, ∃ p, imgF e = some p) ∧ im = es.filterMap imgF
  | [], im, h => by simp only [imgsF, Option.some.injEq] at h; subst h; exact ⟨fun e he => (by cases he), rfl⟩
  | e :: es, im, h => by
    simp only [imgsF] at h
    split at h
    case h_2 => cases h
    rename_i p r h1 h2
    simp only [Option.some.injEq] at h; subst h
    obtain ⟨i1, i2⟩ := imgs_map h2
    refine ⟨fun x hx => ?_, by rw [List.filterMap_cons, h1, i2]⟩
    rcases List.mem_cons.1 hx with rfl | hx
    · exact ⟨p, h1⟩
    · exact i1 x hx
theorem strs_spec : ∀ {l : List (Value × Value)} {ks : List (List UInt8)}, strs l = some ks → ∀ (i : Nat) p, l[i]? = some p → ∃ s, p.1 = .string s ∧ ks[i]? = some s.data.toList
  | [], _, _, i, p, hi => by simp at hi
  | (a, b) :: l, ks, h, i, p, hi => by
    unfold strs at h
    split at h
    · rename_i heq; cases heq
    · rename_i s v l' heq
      cases heq
      split at h
      case h_2 => cases h
      rename_i r hr
      simp only [Option.some.injEq] at h; subst h
      cases i with
      | zero => simp at hi; subst hi; exact ⟨s, rfl, rfl⟩
      | succ i => obtain ⟨s', h1, h2⟩ := strs_spec hr i p (by simpa using hi); exact ⟨s', h1, by simpa using h2⟩
    · cases h

abbrev WFull : List Tmp := [21, 22, 23, 24, 25, 4, 5, 26, 27, 28, 29]
theorem hookFull_ok (T : TabOk P τ) {b b2 j1 j2 j3 : Nat} {A1 A2 A3 : Array Oper} {tr ts tm : TypeId} (hf : FullLoop τ A1 A2 A3 tr ts tm) :
    HookOk P τ (hookFull 20 3 WFull) (mapLoopC b b2 j1 A1 22 (.seq (.region j2 A2 false) (.region j3 A3 false))) := by
  intro ρ fr0 fr' h0 h' a w st hu K outs hK
  unfold hookFull at hu
  split at hu
  case h_2 => cases hu
  rename_i r idf hti htf
  split at hu
  case h_2 => cases hu
  rename_i m since last fs ckf hr hidf
  split at hu
  case h_2 => cases hu
  rename_i es ck hm
  split at hu
  case h_2 => cases hu
  rename_i im him
  split at hu
  case h_2 => cases hu
  rename_i ks hks
  replace hu := bifO hu; obtain ⟨hch, hu⟩ := hu
  simp only [Option.some.injEq, Prod.mk.injEq] at hu
  obtain ⟨rfl, rfl⟩ := hu
  obtain ⟨hch, q7⟩ := and2 hch
  obtain ⟨hch, q6⟩ := and2 hch
  obtain ⟨hch, q5⟩ := and2 hch
  obtain ⟨hch, q4⟩ := and2 hch
  obtain ⟨hch, q3⟩ := and2 hch
  obtain ⟨q1, q2⟩ := and2 hch
  have q1 : m ≠ idf := fun hh => by subst hh; simp at q1
  have q2 := Nat.le_of_ble_eq_true q2
  have q3 := Nat.le_of_ble_eq_true q3
  obtain ⟨n1, n2⟩ := asc_spec es 0 q4
  obtain ⟨im1, im2⟩ := imgs_map him
  have hrm : r ≠ m := fun hh => by subst hh; rw [hr] at hm; cases hm
  have hrf : r ≠ idf := fun hh => by subst hh; rw [hr] at hidf; cases hidf
  have habs : ∀ t ∈ WFull, fr0.tm.get t = none ∧ t < fr0.sz := fun t ht => by
    have := List.all_eq_true.1 q6 t ht
    simp only [Bool.and_eq_true] at this
    refine ⟨?_, by have := this.2; rwa [Nat.blt_eq] at this⟩
    cases hg : fr0.tm.get t with
    | none => rfl
    | some x => rw [hg] at this; exact absurd this.1 (by simp)
  obtain ⟨dtr, htr⟩ := hf.tr
  obtain ⟨kt, et, htm, hkt⟩ := hf.tm
  have hts := hf.ts
  have hstr := strs_spec hks
  have hdist := dist_spec q5
  have hkl : ks.length = (fs.map kvOf ++ im).length := by
    have : ∀ {l : List (Value × Value)} {ks : List (List UInt8)}, strs l = some ks → ks.length = l.length := by
      intro l
      induction l with
      | nil => intro ks h; simp only [strs, Option.some.injEq] at h; subst h; rfl
      | cons p l ih =>
        intro ks h
        unfold strs at h
        split at h
        · rename_i heq; cases heq
        · rename_i heq; cases heq
          split at h
          case h_2 => cases h
          rename_i r hr
          simp only [Option.some.injEq] at h; subst h
          simp [ih hr]
        · cases h
    exact this hks
  -- the invariant
  let hE : Hp := (h0.put r .dead).put idf (.umap (fs.map kvOf ++ im))
  have hEr : hE.lo.has r := (lower_le _ _).1 _ (lower_le _ _).2
  have hEf : hE.lo.has idf := (lower_le _ _).2
  let Inv : List MapEntry → Fr → Hp → Prop := fun D fr h =>
    fr.sz = fr0.sz ∧ fr.ds = fr0.ds ∧ (∀ t, t ∉ WFull → fr.tm.get t = fr0.tm.get t) ∧ h.nx = h0.nx ∧ hE.lo ≤ h.lo ∧ (∀ e ∈ D, e ∈ es) ∧ (D.map (·.born)).Nodup ∧
      (∃ last', h.t.get r = some (.miter (some m) since (D.map (·.born)) last') ∧ (D = [] ∨ last' = ck)) ∧ (∃ fs', h.t.get idf = some (.map fs' (ckf + D.length)) ∧ fs'.map kvOf = fs.map kvOf ++ D.filterMap imgF) ∧
      ∀ id, id ≠ r → id ≠ idf → h.t.get id = h0.t.get id
  have hway := map_loop (τ := τ) (call := noCall) (L := 200000) (ro := none) (b := b) (b2 := b2) (i1 := j1) (A := A1) (tn := 21) (c := 22) (ti := 20) (body := .seq (.region j2 A2 false) (.region j3 A3 false)) (r := r) (m := m) (since := since) (es := es) (ck := ck)
    hf.a1 hf.g1 n1 (fun e he => (n2 e he).2) (fun e he => by have := (n2 e he).2; omega) Inv (K0 := endKt) (G := fun o => ∃ fr'' h'', o = .frm fr'' h'' ∧ Wk h0 fr'' h'' fr0 hE) ?_ ?_ ?_ (fr := fr0) (h := h0) ?_ (by omega)
  · obtain ⟨outs', o1, o2⟩ := hway
    exact hook_ways T (by simp [mapLoopC, CR]) st o1 o2 K outs hK
  · -- what the invariant says of the iterator
    intro D fr h hi
    obtain ⟨i1, i2, i3, i4, i5, i7, i8, i9, i10, i11⟩ := hi
    exact ⟨by rw [i3 20 (by decide)]; exact hti, i9, by rw [i11 m (Ne.symm hrm) q1]; exact hm, by rw [i1]; exact (habs 21 (by decide)).2, by rw [i1]; exact (habs 22 (by decide)).2⟩
  · -- a round
    intro D e fr h hi he hnb
    obtain ⟨i1, i2, i3, i4, i5, i7, i8, ⟨last', i9, i9'⟩, ⟨fs', i10, i10'⟩, i11⟩ := hi
    obtain ⟨p, hp⟩ := im1 e he
    obtain ⟨key, val, born⟩ := e
    unfold imgF at hp
    split at hp
    case h_2 => cases hp
    rename_i ik n s born' heq
    cases heq
    simp only [Option.some.injEq] at hp; subst hp
    have hsz : ∀ t ∈ WFull, t < fr.sz := fun t ht => by rw [i1]; exact (habs t ht).2
    let h1 : Hp := h.put r (.miter (some m) since (D.map (·.born) ++ [born]) ck)
    have h1r : h1.t.get r = some (.miter (some m) since (D.map (·.born) ++ [born]) ck) := Ev.T.get_ins_same _ _ _
    have h1m : h1.t.get m = some (.map es ck) := by
      show (h.t.ins r _).get m = _
      rw [Ev.T.get_ins_ne _ _ (Ne.symm hrm), i11 m (Ne.symm hrm) q1]; exact hm
    have h1f : h1.t.get idf = some (.map fs' (ckf + D.length)) := by
      show (h.t.ins r _).get idf = _
      rw [Ev.T.get_ins_ne _ _ (Ne.symm hrf)]; exact i10
    have hent := entry_at (D := D) (e := ⟨.int ik n, .string s, born⟩) h1r h1m n1 he
    -- no key is this one yet
    have hno : findB τ kt (.string s) fs' 0 = some none := by
      refine find_none hkt fs' 0 fun x hx => ?_
      -- where the entry's image lies
      have hmem : (Value.string s, Value.string (Utf8.encode n)) ∈ im := by rw [im2]; exact List.mem_filterMap.2 ⟨_, he, rfl⟩
      have hx' : kvOf x ∈ fs.map kvOf ++ D.filterMap imgF := by rw [← i10']; exact List.mem_map.2 ⟨x, hx, rfl⟩
      -- the list of all keys, without this one, holds x's
      have hpos : ∃ i j : Nat, i ≠ j ∧ (fs.map kvOf ++ im)[i]? = some (kvOf x) ∧ (fs.map kvOf ++ im)[j]? = some (Value.string s, Value.string (Utf8.encode n)) := by
        have himg : ∀ (l : List MapEntry) (y : MapEntry), y ∈ l → (∀ z ∈ l, ∃ p, imgF z = some p) → ∀ q, imgF y = some q → ∃ i : Nat, (l.filterMap imgF)[i]? = some q ∧ l[i]? = some y := by
          intro l
          induction l with
          | nil => intro y hy; cases hy
          | cons z l ih =>
            intro y hy hall q hq
            obtain ⟨pz, hpz⟩ := hall z List.mem_cons_self
            rw [List.filterMap_cons, hpz]
            rcases List.mem_cons.1 hy with rfl | hy
            · rw [hpz] at hq; cases hq; exact ⟨0, rfl, rfl⟩
            · obtain ⟨i, h1, h2⟩ := ih y hy (fun u hu => hall u (List.mem_cons_of_mem _ hu)) q hq
              exact ⟨i + 1, by simpa using h1, by simpa using h2⟩
        obtain ⟨j, hj1, hj2⟩ := himg es _ he im1 _ rfl
        rcases List.mem_append.1 hx' with hx' | hx'
        · obtain ⟨i, hi⟩ := List.mem_iff_getElem?.1 hx'
          have hilt := (List.getElem?_eq_some_iff.1 hi).1
          exact ⟨i, (fs.map kvOf).length + j, by omega, by rw [List.getElem?_append_left hilt]; exact hi, by rw [List.getElem?_append_right (by omega), Nat.add_sub_cancel_left, im2]; exact hj1⟩
        · obtain ⟨y, hy1, hy2⟩ := List.mem_filterMap.1 hx'
          obtain ⟨i, hi1, hi2⟩ := himg es y (i7 y hy1) im1 _ hy2
          refine ⟨(fs.map kvOf).length + i, (fs.map kvOf).length + j, fun hh => ?_, by rw [List.getElem?_append_right (by omega), Nat.add_sub_cancel_left, im2]; exact hi1, by rw [List.getElem?_append_right (by omega), Nat.add_sub_cancel_left, im2]; exact hj1⟩
          have : i = j := by omega
          subst this
          rw [hi2] at hj2; cases hj2
          exact hnb (List.mem_map.2 ⟨_, hy1, rfl⟩)
      obtain ⟨i, j, hij, hi, hj⟩ := hpos
      obtain ⟨s1, k1, k2⟩ := hstr i _ hi
      obtain ⟨s2, k3, k4⟩ := hstr j _ hj
      have hs2 : s2 = s := by cases k3; rfl
      subst hs2
      refine ⟨s1, k1, ?_⟩
      rcases Nat.lt_or_gt_of_ne hij with hlt | hgt
      · have := hdist i j _ _ hlt k2 k4
        refine Bool.eq_false_iff.2 fun hh => ?_
        rw [eqS_eq] at hh
        rw [eq_of_beq hh, eqS_refl] at this; cases this
      · exact hdist j i _ _ hgt k4 k2
    have hkey : keyTy τ 5 kt (.string s) = true := by
      show keyTy τ (4 + 1) kt (.string s) = true
      simp only [keyTy, hkt]
    have hupd : mapUpdateB τ tm (.map (some idf)) (.string s) (.string (Utf8.encode n)) h1 = some (h1.put idf (.map (fs' ++ [{ key := .string s, val := .string (Utf8.encode n), born := ckf + D.length }]) (ckf + D.length + 1))) := by
      simp only [mapUpdateB, htm, hkey, cond_true, h1f, hno]
    have hconv : convB τ tr ts (.int ik n) h1 = some (.string (Utf8.encode n), h1) := by
      simp only [convB, htr, hts]
    -- the frames
    let f1 : Fr := (fr.lay 21 (.tuple #[.bool true, .int ik n, .string s])).lay 22 (.bool true)
    let f2 : Fr := ((((f1.lay 23 (.tuple #[.int ik n, .string s])).lay 24 (.int ik n)).lay 25 (.string s)).lay 4 (.int ik n)).lay 5 (.string s)
    let f3 : Fr := (((f2.lay 26 (.map (some idf))).lay 27 (.string s)).lay 28 (.int ik n)).lay 29 (.string (Utf8.encode n))
    let h2 : Hp := h1.put idf (.map (fs' ++ [{ key := .string s, val := .string (Utf8.encode n), born := ckf + D.length }]) (ckf + D.length + 1))
    refine ⟨f3, h2, ⟨i1, i2, fun t ht => ?_, i4, ?_, fun x hx => ?_, ?_, ⟨ck, ?_, .inr rfl⟩, ⟨fs' ++ [{ key := .string s, val := .string (Utf8.encode n), born := ckf + D.length }], ?_, ?_⟩, fun id h1' h2' => ?_⟩, fun K => ?_⟩
    · rw [← i3 t ht]
      simp only [List.mem_cons, not_or, List.not_mem_nil, not_false_eq_true, and_true] at ht
      obtain ⟨t1, t2, t3, t4, t5, t6, t7, t8, t9, t10, t11⟩ := ht
      simp only [f3, f2, f1, Fr.lay_get, if_neg t1, if_neg t2, if_neg t3, if_neg t4, if_neg t5, if_neg t6, if_neg t7, if_neg t8, if_neg t9, if_neg t10, if_neg t11]
    · exact lower_cover (lower_cover i5 hEr) hEf
    · rcases List.mem_append.1 hx with hx | hx
      · exact i7 x hx
      · rw [List.mem_singleton.1 hx]; exact he
    · rw [List.map_append, List.nodup_append]
      refine ⟨i8, by simp, fun a ha b hb hab => ?_⟩
      simp only [List.map_cons, List.map_nil, List.mem_singleton] at hb
      subst hb; subst hab; exact hnb ha
    · show (h1.t.ins idf _).get r = _
      rw [Ev.T.get_ins_ne _ _ hrf, h1r, List.map_append]; rfl
    · show (h1.t.ins idf _).get idf = _
      rw [Ev.T.get_ins_same, List.length_append]; rfl
    · rw [List.map_append, i10', List.filterMap_append, ← List.append_assoc]; rfl
    · show (h1.t.ins idf _).get id = _
      rw [Ev.T.get_ins_ne _ _ h2']
      show (h.t.ins r _).get id = _
      rw [Ev.T.get_ins_ne _ _ h1']; exact i11 id h1' h2'
    · have hti' : fr.tm.get 20 = some (ptr r 0) := by rw [i3 20 (by decide)]; exact hti
      have htf' : fr.tm.get 3 = some (.map (some idf)) := by rw [i3 3 (by decide)]; exact htf
      show codeK τ noCall 200000 none (.region j2 A2 false) { n := fun fr h => codeK τ noCall 200000 none (.region j3 A3 false) K fr h, x := K.x, r := K.r, p := K.p } f1 h1 = _
      rw [codeK_region hf.g2, hf.a2]
      have g20 : ev τ f1 (.tmp 20) = some (ptr r 0) := by
        rw [ev_lay_ne (by decide), ev_lay_ne (by decide)]; exact hti'
      refine (keysK_lay (v := .tuple #[.int ik n, .string s]) rfl (by simp only [leafB, g20, hent]; rfl) (by exact hsz 23 (by decide))).trans ?_
      refine (keysK_lay (v := .int ik n) rfl (by exact (leaf_extract (vs := [.int ik n, .string s]) ev_lay_same rfl)) (by exact hsz 24 (by decide))).trans ?_
      refine (keysK_lay (v := .string s) rfl (by exact (leaf_extract (vs := [.int ik n, .string s]) ((ev_lay_ne (by decide)).trans ev_lay_same) rfl)) (by exact hsz 25 (by decide))).trans ?_
      refine (keysK_lay (v := .int ik n) rfl (by exact (leaf_assign ((ev_lay_ne (by decide)).trans ev_lay_same))) (by exact hsz 4 (by decide))).trans ?_
      refine (keysK_lay (v := .string s) rfl (by exact (leaf_assign ((ev_lay_ne (by decide)).trans ev_lay_same))) (by exact hsz 5 (by decide))).trans ?_
      show codeK τ noCall 200000 none (.region j3 A3 false) K f2 h1 = _
      rw [codeK_region hf.g3, hf.a3]
      have g3 : ev τ f2 (.tmp 3) = some (.map (some idf)) := by
        simp only [f2, f1]
        repeat rw [ev_lay_ne (by decide)]
        exact htf'
      refine (keysK_lay (v := .map (some idf)) rfl (by exact (leaf_move g3)) (by exact hsz 26 (by decide))).trans ?_
      refine (keysK_lay (v := .string s) rfl (by exact (leaf_move ((ev_lay_ne (by decide)).trans ev_lay_same))) (by exact hsz 27 (by decide))).trans ?_
      refine (keysK_lay (v := .int ik n) rfl (by exact (leaf_move ((ev_lay_ne (by decide)).trans ((ev_lay_ne (by decide)).trans ((ev_lay_ne (by decide)).trans ev_lay_same))))) (by exact hsz 28 (by decide))).trans ?_
      refine (keysK_lay (v := .string (Utf8.encode n)) rfl (by simp only [leafB]; rw [ev_lay_same]; exact hconv) (by exact hsz 29 (by decide))).trans ?_
      refine (keysK_none (v := .tuple #[]) (h' := h2) rfl (by
        have e1 : ev τ f3 (.tmp 26) = some (.map (some idf)) := (ev_lay_ne (by decide)).trans ((ev_lay_ne (by decide)).trans ((ev_lay_ne (by decide)).trans ev_lay_same))
        have e2 : ev τ f3 (.tmp 27) = some (.string s) := (ev_lay_ne (by decide)).trans ((ev_lay_ne (by decide)).trans ev_lay_same)
        have e3 : ev τ f3 (.tmp 29) = some (.string (Utf8.encode n)) := ev_lay_same
        show leafB τ f3 h1 _ = _
        simp only [leafB, e1, e2, e3, hupd, okU]; rfl)).trans ?_
      rfl
  · -- the end
    intro D fr h hi hperm
    obtain ⟨i1, i2, i3, i4, i5, i7, i8, ⟨last', i9, i9'⟩, ⟨fs', i10, i10'⟩, i11⟩ := hi
    refine ⟨_, rfl, fun o ho => ?_⟩
    obtain rfl := List.mem_singleton.1 ho
    refine ⟨_, h, rfl, i1.symm, i2.symm, fun t u hu => ?_, i4.symm, i5, fun id hb _ hg => ?_, (AF.put _ _ _).trans (AF.put _ _ _)⟩
    · have ht : t ∉ WFull := fun hh => by rw [(habs t hh).1] at hu; cases hu
      have t1 : t ≠ 21 := fun hh => ht (by rw [hh]; decide)
      have t2 : t ≠ 22 := fun hh => ht (by rw [hh]; decide)
      rw [Fr.lay_get, if_neg t2, Fr.lay_get, if_neg t1, i3 t ht]; exact hu
    · have hg : ((h0.t.ins r .dead).ins idf (.umap (fs.map kvOf ++ im))).get id = some hb := hg
      rw [Ev.T.get_ins] at hg
      by_cases h1' : id = idf
      · rw [if_pos h1'] at hg; cases hg; subst h1'
        refine ⟨_, i10, .umap ?_ ?_⟩
        · rw [List.all_append, Bool.and_eq_true]
          refine ⟨?_, ?_⟩
          · rw [List.all_map]; exact q7
          · rw [im2]
            refine List.all_eq_true.2 fun p hp => ?_
            obtain ⟨x, _, hx⟩ := List.mem_filterMap.1 hp
            unfold imgF at hx
            split at hx
            · simp only [Option.some.injEq] at hx; subst hx; rfl
            · cases hx
        · show (fs'.map kvOf).Perm _
          rw [i10', im2]
          exact (hperm.filterMap imgF).append_left _
      · rw [if_neg h1', Ev.T.get_ins] at hg
        by_cases h2' : id = r
        · rw [if_pos h2'] at hg; cases hg; subst h2'
          exact ⟨_, i9, .dead _⟩
        · rw [if_neg h2'] at hg
          exact ⟨hb, by rw [i11 id h2' h1']; exact hg, .same _⟩
  · -- the start
    refine ⟨rfl, rfl, fun _ _ => rfl, rfl, ?_, fun e he => (by cases he), by simp, ⟨last, hr, .inl rfl⟩, ⟨fs, hidf, by simp⟩, fun _ _ _ => rfl⟩
    exact WS.le_trans (lower_le _ _).1 (lower_le _ _).1
end
end Go.Ev
end
