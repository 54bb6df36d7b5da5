/-
  The evaluator of closed runs (a part): EvS23, EvS24, EvS25.
-/
import Derived.Test.YtehhkecoedbjoaaGreatDoorEv9
set_option linter.unusedVariables false
set_option linter.unusedSimpArgs false
set_option linter.unusedSectionVars false
section
/-
  Regions whose order is drawn: values and blocks under fewer block numbers; the text's run beside the machine's.
-/
namespace Go.Ev

/-! ### fewer block numbers -/
def Ren.cut (ρ σ : Ren) : Ren := fun id => if (σ id).isSome then ρ id else none
theorem Ren.cut_some {ρ σ : Ren} {id : Nat} {pl pl' : Pl} (h : ρ id = some pl) (h' : σ id = some pl') : ρ.cut σ id = some pl := by simp [Ren.cut, h, h']
theorem Ren.cut_le (ρ σ : Ren) : (ρ.cut σ).le ρ := fun id pl h => by
  unfold Ren.cut at h; split at h
  · exact h
  · cases h
theorem Ren.cut_spec {ρ σ : Ren} {id : Nat} {pl : Pl} (h : ρ.cut σ id = some pl) : ρ id = some pl ∧ ∃ pl', σ id = some pl' := by
  unfold Ren.cut at h; split at h
  · rename_i hs; exact ⟨h, Option.isSome_iff_exists.1 hs⟩
  · cases h
section
variable {ρ σ : Ren}
theorem FnR.cut {f f' f'' : Fn} (h : FnR ρ f f') (h' : FnR σ f f'') : FnR (ρ.cut σ) f f' := by
  cases h with
  | func f => exact .func f
  | method n => exact .method n
  | methodOf t n => exact .methodOf t n
  | via t p f r => exact .via t p f r
  | yield e => cases h' with | yield e' => exact .yield (Ren.cut_some e e')

mutual
theorem VR.cut {v v' v'' : Value} (h : VR ρ v v') (h' : VR σ v v'') : VR (ρ.cut σ) v v' :=
  match v, v', v'', h, h' with
  | _, _, _, .bool b, _ => .bool b
  | _, _, _, .int k n, _ => .int k n
  | _, _, _, .float k n, _ => .float k n
  | _, _, _, .complex k n m, _ => .complex k n m
  | _, _, _, .string s, _ => .string s
  | _, _, _, .nilptr, _ => .nilptr
  | _, _, _, .ptr e, .ptr e' => .ptr (Ren.cut_some e e')
  | _, _, _, .nilslice l c, _ => .nilslice l c
  | _, _, _, .slice e f, .slice e' _ => .slice (Ren.cut_some e e') f
  | _, _, _, .nilmap, _ => .nilmap
  | _, _, _, .map e, .map e' => .map (Ren.cut_some e e')
  | _, _, _, .nilchan, _ => .nilchan
  | _, _, _, .func f a c, .func f' a' c' => .func (f.cut f') (LR.cut a a') (LR.cut c c')
  | _, _, _, .nilFunc, _ => .nilFunc
  | _, _, _, .iface r, .iface r' => .iface (VR.cut r r')
  | _, _, _, .nilIface, _ => .nilIface
  | _, _, _, .agg l, .agg l' => .agg (LR.cut l l')
  | _, _, _, .tuple l, .tuple l' => .tuple (LR.cut l l')
theorem LR.cut {l l' l'' : List Value} (h : LR ρ l l') (h' : LR σ l l'') : LR (ρ.cut σ) l l' :=
  match l, l', l'', h, h' with
  | _, _, _, .nil, _ => .nil
  | _, _, _, .cons a b, .cons a' b' => .cons (VR.cut a a') (LR.cut b b')
end
theorem ER.cut : ∀ {l l' l'' : List MapEntry}, ER ρ l l' → ER σ l l'' → ER (ρ.cut σ) l l'
  | _, _, _, .nil, _ => .nil
  | _, _, _, .cons a b c r, .cons a' b' _ r' => .cons (a.cut a') (b.cut b') c (r.cut r')
theorem BR.cut {P : Program} {pl pl' : Pl} {w w' : World} {hb : HB} (h : BR P ρ pl w hb) (h' : BR P σ pl' w' hb) : BR P (ρ.cut σ) pl w hb := by
  cases hb with
  | cells c n e lo hi x =>
    obtain ⟨C, fz, h1, h2, h3, h4, h5, h6⟩ := h
    obtain ⟨C', fz', k1, k2, k3, k4, k5, k6⟩ := h'
    exact ⟨C, fz, h1, h2, h3, fun i v e => let ⟨a, v', b, c⟩ := h4 i v e; let ⟨_, _, _, c'⟩ := k4 i v e; ⟨a, v', b, c.cut c'⟩, h5, h6⟩
  | map es ck =>
    obtain ⟨es', h1, h2⟩ := h
    obtain ⟨_, _, k2⟩ := h'
    exact ⟨es', h1, h2.cut k2⟩
  | str s pos => exact h
  | miter m since seen last =>
    cases m with
    | none => exact h
    | some m =>
      obtain ⟨plm, h1, h2, h3⟩ := h
      obtain ⟨_, k1, _, _⟩ := h'
      exact ⟨plm, Ren.cut_some h1 k1, h2, h3⟩
  | loop st pend tm sz ps as body d =>
    obtain ⟨L, h1, h2, h3, h4, h5, h6, h7, h10, h11, pld, h8, h9⟩ := h
    obtain ⟨_, _, _, _, _, _, _, k7, _, _, _, k8, _⟩ := h'
    exact ⟨L, h1, h2, h3, h4, h5, h6, ⟨h7.1, fun i v e => let ⟨v', a, b⟩ := h7.2 i v e; let ⟨_, _, b'⟩ := k7.2 i v e; ⟨v', a, b.cut b'⟩⟩, h10, h11, pld, Ren.cut_some h8 k8, h9⟩
  | dfr t => exact h
  | dead => trivial
  | umap es => exact h
  | ucells gs e => exact h
end

/-! ### a map is given an entry: what is looked up stays -/
section
variable {τ : Tab}
theorem eqB_total : ∀ (d n : Nat) (t : TypeId) (x y : Value), d ≤ n → keyTy τ d t x = true → keyTy τ d t y = true → ∃ b, eqB τ n t x y = some b := by
  intro d
  induction d with
  | zero => intro n t x y _ h; cases h
  | succ d ih =>
    intro n t x y hn hx hy
    obtain ⟨n, rfl⟩ : ∃ m, n = m + 1 := ⟨n - 1, by omega⟩
    simp only [keyTy] at hx
    split at hx
    · rename_i k k' a hd
      simp only [keyTy, hd] at hy
      split at hy
      · rename_i k1 k2 b hh
        cases hh
        have h1 := sameK_eq hx
        have h2 := sameK_eq hy
        subst h1; subst h2
        exact ⟨_, by simp [eqB, hd]; rfl⟩
      · rename_i hh; cases hh
      · rename_i hh; cases hh
      · rename_i hh; cases hh
      · cases hy
    · rename_i a hd
      simp only [keyTy, hd] at hy
      split at hy
      · rename_i hh; cases hh
      · exact ⟨_, by simp [eqB, hd]; rfl⟩
      · rename_i hh; cases hh
      · rename_i hh; cases hh
      · cases hy
    · rename_i a hd
      simp only [keyTy, hd] at hy
      split at hy
      · rename_i hh; cases hh
      · rename_i hh; cases hh
      · exact ⟨_, by simp [eqB, hd]; rfl⟩
      · rename_i hh; cases hh
      · cases hy
    · rename_i fields cs hd
      simp only [keyTy, hd] at hy
      split at hy
      · rename_i hh; cases hh
      · rename_i hh; cases hh
      · rename_i hh; cases hh
      · rename_i fields' cs' hh
        cases hh
        cases he : τ.eqOk t with
        | false => rw [he] at hx; cases hx
        | true =>
        rw [he] at hx hy
        simp only [cond_true] at hx hy
        simp only [eqB, hd, he, cond_true]
        have key : ∀ l : List Field, (l.all (fun f => match partB τ f.type cs.toList f.offset with | some p => keyTy τ d f.type p | none => false)) = true →
            (l.all (fun f => match partB τ f.type cs'.toList f.offset with | some p => keyTy τ d f.type p | none => false)) = true →
            ∃ b, l.foldr (fun f r => if f.name = "_" then r else match partB τ f.type cs.toList f.offset, partB τ f.type cs'.toList f.offset with
              | some a, some b => (match eqB τ n f.type a b with | some true => r | some false => some false | none => none)
              | _, _ => none) (some true) = some b := by
          intro l
          induction l with
          | nil => intro _ _; exact ⟨true, rfl⟩
          | cons f l ihl =>
            intro h1 h2
            simp only [List.all_cons, Bool.and_eq_true] at h1 h2
            obtain ⟨b, hb⟩ := ihl h1.2 h2.2
            rw [List.foldr_cons, hb]
            by_cases hu : f.name = "_"
            · rw [if_pos hu]; exact ⟨b, rfl⟩
            · rw [if_neg hu]
              have h1 := h1.1
              have h2 := h2.1
              split at h1
              case h_2 => cases h1
              rename_i p hp
              split at h2
              case h_2 => cases h2
              rename_i q hq
              obtain ⟨c, hc⟩ := ih n f.type p q (by omega) h1 h2
              simp only [hp, hq, hc]
              cases c
              · exact ⟨false, rfl⟩
              · exact ⟨b, rfl⟩
        exact key _ hx hy
      · cases hy
    · cases hx

theorem findB_at {kt : TypeId} {k : Value} : ∀ {es : List MapEntry} {j i : Nat} {e : MapEntry}, findB τ kt k es j = some (some (i, e)) → ∃ n, i = j + n ∧ es[n]? = some e
  | [], j, i, e, h => by cases h
  | e0 :: es, j, i, e, h => by
    simp only [findB] at h
    split at h
    · cases h; exact ⟨0, rfl, rfl⟩
    · obtain ⟨n, h1, h2⟩ := findB_at h
      exact ⟨n + 1, by omega, by simpa using h2⟩
    · cases h
theorem modAt_same {f : MapEntry → MapEntry} : ∀ {es : List MapEntry} {i : Nat} {e : MapEntry}, es[i]? = some e → f e = e → modAt es i f = es
  | [], _, _, _, _ => rfl
  | e0 :: es, 0, e, h, hf => by simp at h; subst h; simp [modAt, hf]
  | e0 :: es, i + 1, e, h, hf => by simp at h; simp [modAt, modAt_same h hf]
theorem findB_append {kt : TypeId} {k : Value} {e : MapEntry} {b : Bool} (hb : eqB τ Op.maxDepth kt k e.key = some b) : ∀ (es : List MapEntry) (j : Nat),
    findB τ kt k (es ++ [e]) j = (match findB τ kt k es j with | some (some x) => some (some x) | some none => if b then some (some (j + es.length, e)) else some none | none => none)
  | [], j => by
    simp only [List.nil_append, findB, hb]
    cases b <;> rfl
  | e0 :: es, j => by
    simp only [List.cons_append, findB]
    cases h0 : eqB τ Op.maxDepth kt k e0.key with
    | none => rfl
    | some c =>
      cases c with
      | true => rfl
      | false =>
        simp only []
        rw [findB_append hb es (j + 1)]
        simp only [List.length_cons]
        rw [show j + 1 + es.length = j + (es.length + 1) by omega]

theorem mapEntry_lk {t : TypeId} {r : Nat} {key v : Value} {h h' : Hp} (hu : mapEntryB τ t (.map (some r)) key h = some (v, h')) : LkEq τ t r (h.t.get r) (h'.t.get r) := by
  unfold mapEntryB at hu
  split at hu
  case h_2 => cases hu
  rename_i kt et r' hds hr
  cases hr
  replace hu := bifO hu; obtain ⟨hkey, hu⟩ := hu
  split at hu
  case h_2 => cases hu
  rename_i es ck hes
  intro x h1 h2 e1 e2
  rw [hes] at e1
  simp only [lookupB, hds]
  cases hx : keyTy τ 5 kt x with
  | false => rfl
  | true =>
  simp only [cond_true]
  split at hu
  · rename_i i e hf
    replace hu := bifO hu; obtain ⟨hs, hu⟩ := hu
    simp only [Option.some.injEq, Prod.mk.injEq] at hu
    obtain ⟨_, rfl⟩ := hu
    obtain ⟨n, hn, he⟩ := findB_at hf
    have hn : i = n := by omega
    subst hn
    have hk := (sameKey_spec hs).1
    have hm : modAt es i (fun e => { e with key := key }) = es := modAt_same he (by cases e; simp at hk; simp [hk])
    have e2' : (h.t.ins r (.map (modAt es i (fun e => { e with key := key })) ck)).get r = h2.t.get r := e2.symm
    rw [T.get_ins_same, hm] at e2'
    rw [e1, ← e2']
  · split at hu
    case h_2 => cases hu
    rename_i z hz
    simp only [Option.some.injEq, Prod.mk.injEq] at hu
    obtain ⟨_, rfl⟩ := hu
    have e2' : (h.t.ins r (.map (es ++ [{ key := key, val := z, born := ck }]) (ck + 1))).get r = h2.t.get r := e2.symm
    rw [T.get_ins_same] at e2'
    rw [e1, ← e2']
    simp only []
    obtain ⟨b, hb⟩ := eqB_total (τ := τ) 5 Op.maxDepth kt x key (by decide) hx hkey
    rw [findB_append (e := { key := key, val := z, born := ck }) hb]
    cases findB τ kt x es 0 with
    | none => rfl
    | some o =>
      cases o with
      | some p => rfl
      | none =>
        cases b with
        | true => simp [hz]
        | false => rfl
  · cases hu
end

/-! ### the text's run -/
/-- Operation j writes. -/
def Ws (E : Nat → Eff) (j : Nat) (s : WS) : Prop := ∃ me, E j = .wr s me
def Wr (H : Nat → Hp) (E : Nat → Eff) (j id : Nat) : Prop := id < (H j).nx ∧ ∃ s, Ws E j s ∧ s.has id
def WT (ops : Array Oper) (j t : Nat) : Prop := ∃ o, ops[j]? = some o ∧ o.dst = some t

structure Frm (τ : Tab) (H : Nat → Hp) (E : Nat → Eff) (j : Nat) : Prop where
  nx : (H j).nx ≤ (H (j + 1)).nx
  lo : (H (j + 1)).lo ≤ (H j).lo
  wr : ∀ s, Ws E j s → (H (j + 1)).lo ≤ s
  same : ∀ id, id < (H j).nx → ¬ Wr H E j id → (H (j + 1)).t.get id = (H j).t.get id
  rd : ∀ a, E j = .rd a → (H (j + 1)).nx = (H j).nx
  lk : ∀ a t, E j = .lk a t → (H (j + 1)).nx = (H j).nx
  live : ∀ b s, Ws E j s → s.top = some b → ∃ hb, (H j).t.get b = some hb ∧ hb.live = true
  me : ∀ s t, E j = .wr s (some t) → ∃ r, s = .one r ∧ LkEq τ t r ((H j).t.get r) ((H (j + 1)).t.get r)
  ok : (E j).ok = true

section
variable {P : Program} {τ : Tab} {call : CallF} {ops : Array Oper} {F : Nat → Fr} {H : Nat → Hp} {E : Nat → Eff}

theorem Ans.some_end {s : Sem Next} {w : World} {R : Ending → World → Prop} (h : Ans P s w R) : ∃ e w', R e w' := by
  unfold Ans at h
  split at h
  · exact ⟨_, _, h⟩
  · exact ⟨_, _, h⟩
  · obtain ⟨e, w', _, r, _⟩ := h.2 [] (room_wide _)
    exact ⟨e, w', r⟩
  · rename_i l f tmps as body w' _
    obtain ⟨e, w'', r, _⟩ := h.2 (Frame.enter P f #[] .normal) [] (room_wide _)
    exact ⟨e, w'', r⟩
  · exact ⟨_, _, h⟩
  · exact h.elim

/-- What follows an operation in a region that draws. -/
noncomputable abbrev DK (fr : Fr) (o : Oper) : Value → Hp → RR := fun v h' => match fr.set o.dst v with | some fr' => some [.frm fr' h'] | none => none
abbrev DP : Value → Hp → RR := fun _ _ => none

theorem dk_spec {fr fr1 : Fr} {o : Oper} {v : Value} {h1 h' : Hp} {o1 : List Out} (hk : DK fr o v h1 = some o1) (hs : o1 ⊆ [.frm fr1 h']) : fr.set o.dst v = some fr1 ∧ h1 = h' := by
  simp only [DK] at hk
  split at hk
  case h_2 => cases hk
  rename_i fr2 hset
  cases hk
  have := hs (List.mem_singleton.2 rfl)
  have := List.mem_singleton.1 this
  cases this
  exact ⟨hset, rfl⟩

theorem dk_eq {fr fr1 : Fr} {o : Oper} {v : Value} {h1 h' : Hp} (hk : DK fr o v h1 = some [.frm fr1 h']) : fr.set o.dst v = some fr1 ∧ h1 = h' := dk_spec hk fun _ h => h

theorem set_facts {fr fr' : Fr} {d : Option Tmp} {v : Value} (h : fr.set d v = some fr') : fr'.sz = fr.sz ∧ fr'.ds = fr.ds ∧ (∀ t, d ≠ some t → fr'.tm.get t = fr.tm.get t) ∧ ∀ t, d = some t → t < fr.sz ∧ fr'.tm.get t = some v := by
  unfold Fr.set at h
  cases d with
  | none => cases h; exact ⟨rfl, rfl, fun _ _ => rfl, fun t ht => by cases ht⟩
  | some d =>
    simp only at h
    replace h := bifO h; obtain ⟨hlt, h⟩ := h
    cases h
    refine ⟨rfl, rfl, fun t ht => T.get_ins_ne _ _ fun he => ht (by rw [he]), fun t ht => ?_⟩
    cases ht
    exact ⟨by simpa [Nat.blt_eq] using hlt, T.get_ins_same _ _ _⟩

/-- What an effect tells of what has been written. -/
theorem eff_lo {fr fr1 : Fr} {h h' : Hp} {o : Oper} (hu : opK τ call fr h.mark o.op (DK fr o) DP = some [.frm fr1 h']) (hok : (effOf τ fr o.op h h'.lo).ok = true) :
    ((∀ s me, effOf τ fr o.op h h'.lo ≠ .wr s me) → ∀ id, id < h.nx → ¬ h'.lo.has id) ∧ (∀ a, effOf τ fr o.op h h'.lo = .rd a → h'.nx = h.nx) ∧ (∀ a t, effOf τ fr o.op h h'.lo = .lk a t → h'.nx = h.nx) := by
  have hrd : ∀ a, effOf τ fr o.op h h'.lo = .rd a → h' = h.mark := by
    intro a ha
    obtain ⟨v, hq⟩ := eff_rd ha hu
    have h1 := hq h.mark (DK fr o) DP rfl
    rw [hu] at h1
    exact (dk_eq h1.symm).2.symm
  have hlk : ∀ a t, effOf τ fr o.op h h'.lo = .lk a t → h' = h.mark := by
    intro a t ha
    obtain ⟨v, hq⟩ := eff_lk ha hu
    have h1 := hq h.mark (DK fr o) DP (LkEq.refl _ _ _)
    rw [hu] at h1
    exact (dk_eq h1.symm).2.symm
  refine ⟨fun hn id hid => ?_, fun a ha => by rw [hrd a ha]; rfl, fun a t ha => by rw [hlk a t ha]; rfl⟩
  cases he : effOf τ fr o.op h h'.lo with
  | non =>
    obtain ⟨v, nb, hq⟩ := eff_non he hu
    have h1 := hq h.mark (DK fr o) DP rfl
    rw [hu] at h1
    obtain ⟨_, h2⟩ := dk_eq h1.symm
    rw [← h2]
    cases nb <;> exact fun h => h
  | rd a => rw [hrd a he]; exact fun h => h
  | lk a t => rw [hlk a t he]; exact fun h => h
  | rdAll => exact noOld_spec (eff_all he) hid
  | wr s me => exact absurd he (hn s me)
  | bad => rw [he] at hok; cases hok

theorem text_step (T : TabOk P τ) (hc : CallOk P τ call) {ρ : Ren} {a : Act} {w : World} {j : Nat} {o : Oper} (st : St P τ ρ (F j) (H j) a w) (hs : StepAt τ call ops F H E j o) :
    Frm τ H E j ∧ (∃ v, (F j).set o.dst v = some (F (j + 1))) ∧ ∃ ρ' a' w', St P τ ρ' (F (j + 1)) (H (j + 1)) a' w' ∧ ∀ id, id < (H j).nx → ρ' id = ρ id := by
  obtain ⟨hsole, ⟨hw, h', hop, hH, hE, hEok⟩ | ⟨hw, hset, hH, hE⟩⟩ := hs
  · have hans := op_sound T hc (Hkt.mark st.hk) st.fok hop
    obtain ⟨e, w', he⟩ := hans.some_end
    cases e with
    | outgrown => exact he.elim
    | panicked ch => obtain ⟨_, _, _, _, _, _, _, _, _, hb, _⟩ := he; cases hb
    | returned v' =>
      obtain ⟨ρ1, v, h1, o1, hv1, hk1, rf, hK, hsub⟩ := he
      obtain ⟨hset, rfl⟩ := dk_spec hK hsub
      obtain ⟨e2, e3, e4⟩ := eff_lo hop (hE ▸ hEok)
      have e1 : ∀ s, Ws E j s → s = h1.lo := fun s hs => let ⟨me, hme⟩ := hs; (eff_wr (hE.symm.trans hme)).1
      rw [← hE] at e2 e3 e4
      have af := rf.af
      have hlow := joinW_le (H j).lo h1.lo
      refine ⟨⟨?_, ?_, fun lo hlo => ?_, fun id hid hnw => ?_, fun b hb => ?_, fun b t hb => ?_, fun b s hb htp => ?_, fun s t he => ?_, hEok⟩, ⟨v, hset⟩, ?_⟩
      · rw [hH]; exact af.1
      · rw [hH]; exact hlow.1
      · rw [hH, e1 lo hlo]; exact hlow.2
      · rw [hH]
        refine af.2.2 id hid ?_
        by_cases hwr : ∃ lo, Ws E j lo
        · obtain ⟨lo, hlo⟩ := hwr
          rw [← e1 lo hlo]
          exact fun hle => hnw ⟨hid, lo, hlo, hle⟩
        · exact e2 (fun lo me hlo => hwr ⟨lo, me, hlo⟩) id hid
      · rw [hH]; exact e3 b hb
      · rw [hH]; exact e4 b t hb
      · obtain ⟨me, hme⟩ := hb
        exact (eff_wr (hE.symm.trans hme)).2 b htp
      · obtain ⟨m, k, r, ho, hm, hs⟩ := eff_me (hE.symm.trans he)
        refine ⟨r, hs, ?_⟩
        rw [hH]
        show LkEq τ t r ((H j).t.get r) (h1.t.get r)
        rw [ho, opK_leaf (by simp) (by simp) (by simp)] at hop
        simp only [leafB, hm] at hop
        cases hk : ev τ (F j) k with
        | none => rw [hk] at hop; cases hop
        | some key =>
          rw [hk] at hop
          simp only [] at hop
          cases hme : mapEntryB τ t (.map (some r)) key (H j).mark with
          | none => rw [hme] at hop; cases hop
          | some x =>
            rw [hme] at hop
            simp only [] at hop
            obtain ⟨_, h2⟩ := dk_eq hop
            have := mapEntry_lk hme
            rw [h2] at this
            exact this
      · have hle := rf.le (Hkt.mark st.hk)
        obtain ⟨s1, s2, s3⟩ := set_sound (st.fok.mono hle) hv1 hset
        refine ⟨ρ1, a.put o.dst v', w', ⟨?_, s1, by rw [s2, s3]; exact st.ds.mono hle⟩, rf.stp.ext⟩
        rw [hH]; exact hk1
  · refine ⟨⟨by rw [hH]; exact Nat.le_refl _, by rw [hH]; exact WS.le_refl _, fun lo hlo => (by obtain ⟨me, hlo⟩ := hlo; rw [hE] at hlo; cases hlo), fun id _ _ => by rw [hH], fun b hb => (by rw [hE] at hb; cases hb), fun b t hb => (by rw [hE] at hb; cases hb),
      fun b s hb => (by obtain ⟨me, hb⟩ := hb; rw [hE] at hb; cases hb), fun s t he => (by rw [hE] at he; cases he), by rw [hE]; rfl⟩, ⟨_, hset⟩, ?_⟩
    obtain ⟨s1, s2, s3⟩ := set_sound st.fok (undef_rel (ρ := ρ)) hset
    exact ⟨ρ, a.put o.dst undef, w, ⟨by rw [hH]; exact st.hk, s1, by rw [s2, s3]; exact st.ds⟩, fun _ _ => rfl⟩

/-- The text's run. -/
structure DRun (P : Program) (τ : Tab) (call : CallF) (ops : Array Oper) (F : Nat → Fr) (H : Nat → Hp) (E : Nat → Eff) (R : Nat → Ren) : Prop where
  step : ∀ j o, ops[j]? = some o → StepAt τ call ops F H E j o
  sep : ∀ x y, x < y → y < ops.size → clash (E y) (E x) (H x).nx (H (x + 1)).nx = true → compB (Region.before ops).toList y x = true
  frm : ∀ j, j < ops.size → Frm τ H E j
  set : ∀ j o, ops[j]? = some o → ∃ v, (F j).set o.dst v = some (F (j + 1))
  ng : τ.ng ≤ (H 0).nx
  st : ∀ j, j ≤ ops.size → ∃ a w, St P τ (R j) (F j) (H j) a w
  ext : ∀ j, j < ops.size → ∀ id, id < (H j).nx → R (j + 1) id = R j id

theorem drun (T : TabOk P τ) (hc : CallOk P τ call) {ρ : Ren} {a : Act} {w : World} (st : St P τ ρ (F 0) (H 0) a w) (hstep : ∀ j o, ops[j]? = some o → StepAt τ call ops F H E j o)
    (hsep : ∀ x y, x < y → y < ops.size → clash (E y) (E x) (H x).nx (H (x + 1)).nx = true → compB (Region.before ops).toList y x = true) : ∃ R, R 0 = ρ ∧ DRun P τ call ops F H E R := by
  have key : ∀ m, m ≤ ops.size → ∃ R : Nat → Ren, R 0 = ρ ∧ (∀ j, j ≤ m → ∃ a w, St P τ (R j) (F j) (H j) a w) ∧ (∀ j, j < m → Frm τ H E j ∧ (∀ o, ops[j]? = some o → ∃ v, (F j).set o.dst v = some (F (j + 1))) ∧ ∀ id, id < (H j).nx → R (j + 1) id = R j id) := by
    intro m
    induction m with
    | zero => intro _; exact ⟨fun _ => ρ, rfl, fun j hj => by (have : j = 0 := by omega); subst this; exact ⟨a, w, st⟩, fun j hj => by omega⟩
    | succ m ih =>
      intro hm
      obtain ⟨R, r0, r1, r2⟩ := ih (by omega)
      obtain ⟨a1, w1, st1⟩ := r1 m (Nat.le_refl _)
      have ho : ops[m]? = some ops[m] := Array.getElem?_eq_getElem (by omega)
      obtain ⟨f1, f2, ρ', a', w', st', hext⟩ := text_step T hc st1 (hstep m _ ho)
      refine ⟨fun j => if j = m + 1 then ρ' else R j, by simp [r0], fun j hj => ?_, fun j hj => ?_⟩
      · by_cases hjm : j = m + 1
        · subst hjm; simp only [if_pos]; exact ⟨a', w', st'⟩
        · simp only [if_neg hjm]; exact r1 j (by omega)
      · by_cases hjm : j = m
        · subst hjm
          refine ⟨f1, fun o' ho' => ?_, fun id hid => ?_⟩
          · rw [ho] at ho'; cases ho'; exact f2
          · simp only [if_pos, if_neg (show ¬ j = j + 1 by omega)]; exact hext id hid
        · obtain ⟨g1, g2, g3⟩ := r2 j (by omega)
          refine ⟨g1, g2, fun id hid => ?_⟩
          simp only [if_neg (show ¬ j + 1 = m + 1 by omega), if_neg (show ¬ j = m + 1 by omega)]
          exact g3 id hid
  obtain ⟨R, r0, r1, r2⟩ := key ops.size (Nat.le_refl _)
  exact ⟨R, r0, hstep, hsep, fun j hj => (r2 j hj).1, fun j o ho => (r2 j (Array.getElem?_eq_some_iff.1 ho).1).2.1 o ho, st.hk.2, r1, fun j hj => (r2 j hj).2.2⟩

section
variable {R : Nat → Ren}
theorem DRun.nx_le (r : DRun P τ call ops F H E R) {p m : Nat} (h : p ≤ m) (hm : m ≤ ops.size) : (H p).nx ≤ (H m).nx := by
  induction m with
  | zero => have : p = 0 := by omega
            subst this; exact Nat.le_refl _
  | succ m ih =>
    by_cases hp : p = m + 1
    · subst hp; exact Nat.le_refl _
    · exact Nat.le_trans (ih (by omega) (by omega)) (r.frm m (by omega)).nx
theorem DRun.lo_le (r : DRun P τ call ops F H E R) {p m : Nat} (h : p ≤ m) (hm : m ≤ ops.size) : (H m).lo ≤ (H p).lo := by
  induction m with
  | zero => have : p = 0 := by omega
            subst this; exact WS.le_refl _
  | succ m ih =>
    by_cases hp : p = m + 1
    · subst hp; exact WS.le_refl _
    · exact WS.le_trans (r.frm m (by omega)).lo (ih (by omega) (by omega))
theorem DRun.same (r : DRun P τ call ops F H E R) {p m : Nat} (h : p ≤ m) (hm : m ≤ ops.size) {id : Nat} (hid : id < (H p).nx) (hn : ∀ j, p ≤ j → j < m → ¬ Wr H E j id) : (H m).t.get id = (H p).t.get id := by
  induction m with
  | zero => have : p = 0 := by omega
            subst this; rfl
  | succ m ih =>
    by_cases hp : p = m + 1
    · subst hp; rfl
    · rw [(r.frm m (by omega)).same id (Nat.lt_of_lt_of_le hid (r.nx_le (by omega) (by omega))) (hn m (by omega) (by omega))]
      exact ih (by omega) (by omega) fun j h1 h2 => hn j h1 (by omega)
theorem DRun.tm (r : DRun P τ call ops F H E R) {p m : Nat} (h : p ≤ m) (hm : m ≤ ops.size) {t : Nat} (hn : ∀ j, p ≤ j → j < m → ¬ WT ops j t) : (F m).tm.get t = (F p).tm.get t := by
  induction m with
  | zero => have : p = 0 := by omega
            subst this; rfl
  | succ m ih =>
    by_cases hp : p = m + 1
    · subst hp; rfl
    · have ho : ops[m]? = some ops[m] := Array.getElem?_eq_getElem (by omega)
      obtain ⟨v, hv⟩ := r.set m _ ho
      rw [(set_facts hv).2.2.1 t fun hd => hn m (by omega) (by omega) ⟨_, ho, hd⟩]
      exact ih (by omega) (by omega) fun j h1 h2 => hn j h1 (by omega)
theorem DRun.sz (r : DRun P τ call ops F H E R) {m : Nat} (hm : m ≤ ops.size) : (F m).sz = (F 0).sz ∧ (F m).ds = (F 0).ds := by
  induction m with
  | zero => exact ⟨rfl, rfl⟩
  | succ m ih =>
    have ho : ops[m]? = some ops[m] := Array.getElem?_eq_getElem (by omega)
    obtain ⟨v, hv⟩ := r.set m _ ho
    have hf := set_facts hv
    exact ⟨hf.1.trans (ih (by omega)).1, hf.2.1.trans (ih (by omega)).2⟩
theorem DRun.ren (r : DRun P τ call ops F H E R) {p m : Nat} (h : p ≤ m) (hm : m ≤ ops.size) {id : Nat} (hid : id < (H p).nx) : R m id = R p id := by
  induction m with
  | zero => have : p = 0 := by omega
            subst this; rfl
  | succ m ih =>
    by_cases hp : p = m + 1
    · subst hp; rfl
    · rw [r.ext m (by omega) id (Nat.lt_of_lt_of_le hid (r.nx_le (by omega) (by omega)))]
      exact ih (by omega) (by omega)
theorem DRun.dom (r : DRun P τ call ops F H E R) {m : Nat} (hm : m ≤ ops.size) {id : Nat} {pl : Pl} (h : R m id = some pl) : id < (H m).nx := by
  obtain ⟨a, w, st⟩ := r.st m hm
  exact Nat.lt_of_not_le fun hle => by rw [st.hk.1.fresh id hle] at h; cases h
/-- Where a block was made. -/
theorem DRun.maker (r : DRun P τ call ops F H E R) {m : Nat} (hm : m ≤ ops.size) {id : Nat} (h : id < (H m).nx) : id < (H 0).nx ∨ ∃ j, j < m ∧ (H j).nx ≤ id ∧ id < (H (j + 1)).nx := by
  induction m with
  | zero => exact .inl h
  | succ m ih =>
    by_cases hid : id < (H m).nx
    · exact (ih (by omega) hid).imp (fun x => x) fun ⟨j, a, b⟩ => ⟨j, by omega, b⟩
    · exact .inr ⟨m, by omega, by omega, h⟩
/-- A block is made once. -/
theorem DRun.maker_eq (r : DRun P τ call ops F H E R) {i j : Nat} (hi : i < ops.size) (hj : j < ops.size) {id : Nat} (h1 : (H i).nx ≤ id) (h2 : id < (H (i + 1)).nx) (h3 : (H j).nx ≤ id) (h4 : id < (H (j + 1)).nx) : i = j := by
  rcases Nat.lt_trichotomy i j with hlt | heq | hgt
  · have := r.nx_le (p := i + 1) (m := j) hlt (by omega); omega
  · exact heq
  · have := r.nx_le (p := j + 1) (m := i) hgt (by omega); omega
end
end
end Go.Ev
end

section
/-
  Regions whose order is drawn: what holds whichever operations are through, and that it stays so.
-/
namespace Go.Ev

abbrev On (L : Array Bool) (j : Nat) : Prop := L.getD j false = true
theorem On_set {L : Array Bool} {i j : Nat} (hi : i < L.size) : On (L.setIfInBounds i true) j ↔ (On L j ∨ j = i) := by
  unfold On
  by_cases h : i = j
  · subst h; simp [Array.getD_eq_getD_getElem?, hi]
  · rw [getD_set_ne false h]
    exact ⟨.inl, fun hh => hh.resolve_right fun e => h e.symm⟩

section
variable {P : Program} {τ : Tab} {call : CallF} {ops : Array Oper} {F : Nat → Fr} {H : Nat → Hp} {E : Nat → Eff} {R : Nat → Ren}

/-- Of the operations that may write block id those are through that stand before number m in the text. -/
def Cnd (ops : Array Oper) (H : Nat → Hp) (E : Nat → Eff) (L : Array Bool) (m id : Nat) : Prop := ∀ j, j < ops.size → Wr H E j id → (On L j ↔ j < m)

structure DInv (P : Program) (ops : Array Oper) (F : Nat → Fr) (H : Nat → Hp) (E : Nat → Eff) (R : Nat → Ren) (ρ0 : Ren) (a0 : Act) (w0 : World) (L : Array Bool) (ρ : Ren) (a : Act) (w : World) : Prop where
  size : L.size = ops.size
  closed : ClosedS ops (On L)
  sz : (F 0).sz = a.tmps.size
  tm : ∀ t m v, m ≤ ops.size → (∀ j, WT ops j t → (On L j ↔ j < m)) → (F m).tm.get t = some v → ∃ v', a.tmps[t]? = some v' ∧ VR ρ v v'
  ds : a.defers = a0.defers
  bnd : ∀ id pl, ρ id = some pl → pl.b < w.heap.size
  made : ∀ id pl, ρ id = some pl → id < (H 0).nx ∨ ∃ j, j < ops.size ∧ On L j ∧ (H j).nx ≤ id ∧ id < (H (j + 1)).nx
  ext : ∀ id, id < (H 0).nx → ρ id = ρ0 id
  dom : ∀ id pl, ρ id = some pl → ∃ pl', R ops.size id = some pl'
  mem : ∀ id pl hb m, m ≤ ops.size → ρ id = some pl → id < (H m).nx → Cnd ops H E L m id → (H m).t.get id = some hb → BR P ρ pl w hb
  ord : ∀ id id' pl pl' hb m, m ≤ ops.size → ρ id = some pl → ρ id' = some pl' → id < id' → pl.b = pl'.b → id < (H m).nx → Cnd ops H E L m id → (H m).t.get id = some hb → hb.live = false
  cre : ∀ id id' pl pl' j, j < ops.size → (H j).nx ≤ id → id < (H (j + 1)).nx → (∀ lo, ¬ Ws E j lo) → ρ id = some pl → ρ id' = some pl' → id' < (H j).nx → pl'.b ≠ pl.b
  gsize : w0.heap.size ≤ w.heap.size
  chg : ∀ b, b < w0.heap.size → (∀ id pl, (H ops.size).lo.has id → ρ0 id = some pl → pl.b ≠ b) → w.heap[b]? = w0.heap[b]?
  new : ∀ id pl, (H 0).nx ≤ id → ρ id = some pl → w0.heap.size ≤ pl.b ∨ ∃ j pj, (H ops.size).lo.has j ∧ ρ0 j = some pj ∧ pj.b = pl.b
  os : w.os = w0.os
  out : w.output = w0.output
  tape : w.tape = w0.tape
  drawn : w0.drawn ≤ w.drawn

theorem compB_lt {b : List Nat} {x y : Nat} (h : y < x) : compB b x y = (b.getD x 0).testBit y := by
  unfold compB; rw [Nat.ble_eq_true_of_le (Nat.le_of_lt h)]; rfl

theorem rdy_spec {L : Array Bool} {i : Nat} (h : i ∈ Region.ready .any ops L) : i < L.size ∧ ¬ On L i ∧ ∃ o, ops[i]? = some o ∧ ∀ e ∈ o.after, Region.binds .any e = true → On L e.on := by
  obtain ⟨h1, o, ho, he⟩ := mem_ready.1 h
  have hlt : i < L.size := Nat.lt_of_not_le fun hh => by rw [Array.getD_eq_getD_getElem?, Array.getElem?_eq_none hh] at h1; cases h1
  refine ⟨hlt, fun hon => ?_, o, ho, he⟩
  rw [Array.getD_eq_getD_getElem?, Array.getElem?_eq_getElem hlt] at h1
  unfold On at hon
  rw [Array.getD_eq_getD_getElem?, Array.getElem?_eq_getElem hlt] at hon
  simp at h1 hon
  rw [h1] at hon; cases hon

theorem rdy_closed {L : Array Bool} {i : Nat} (hc : ClosedS ops (On L)) (h : i ∈ Region.ready .any ops L) : ClosedS ops (fun j => On L j ∨ j = i) := by
  obtain ⟨_, _, o, ho, he⟩ := rdy_spec h
  intro j oj e hoj hm hb hj
  rcases hj with hj | rfl
  · exact .inl (hc j oj e hoj hm hb hj)
  · rw [ho] at hoj; cases hoj; exact .inl (he e hm hb)

theorem cmp_spec {L : Array Bool} {i j : Nat} (hc : ClosedS ops (On L)) (hr : i ∈ Region.ready .any ops L) (hne : j ≠ i) (h : compB (Region.before ops).toList (max i j) (min i j) = true) : (On L j ↔ j < i) := by
  rcases Nat.lt_or_gt_of_ne hne with hlt | hgt
  · rw [Nat.max_eq_left (Nat.le_of_lt hlt), Nat.min_eq_right (Nat.le_of_lt hlt), compB_lt hlt] at h
    have := before_spec (rdy_closed hc hr) h (.inr rfl)
    exact ⟨fun _ => hlt, fun _ => this.resolve_right hne⟩
  · rw [Nat.max_eq_right (Nat.le_of_lt hgt), Nat.min_eq_left (Nat.le_of_lt hgt), compB_lt hgt] at h
    exact ⟨fun hon => absurd (before_spec hc h hon) (rdy_spec hr).2.1, fun hlt => by omega⟩

theorem hasB_spec {s : WS} {i : Nat} (h : s.has i) : s.hasB i = true := by
  cases s with
  | no => exact h.elim
  | one b => have h : i = b := h; subst h; show Nat.beq i i = true; simp
  | rest lo => exact Nat.ble_eq_true_of_le h
  | pair b lo =>
    have h : i = b ∨ lo ≤ i := h
    show (Nat.beq i b || Nat.ble lo i) = true
    rcases h with h | h
    · subst h; simp
    · rw [Nat.ble_eq_true_of_le h, Bool.or_true]
theorem meets_spec {s : WS} {i nx nx' : Nat} (h : s.has i) (h1 : nx ≤ i) (h2 : i < nx') : s.meets nx nx' = true := by
  cases s with
  | no => exact h.elim
  | one b =>
    have h : i = b := h; subst h
    show (Nat.ble nx i && Nat.blt i nx') = true
    have e2 : Nat.blt i nx' = true := by rw [Nat.blt_eq]; exact h2
    rw [Nat.ble_eq_true_of_le h1, e2]; rfl
  | rest lo =>
    have h : lo ≤ i := h
    show (Nat.blt nx nx' && Nat.blt lo nx') = true
    have e1 : Nat.blt nx nx' = true := by rw [Nat.blt_eq]; omega
    have e2 : Nat.blt lo nx' = true := by rw [Nat.blt_eq]; omega
    rw [e1, e2]; rfl
  | pair b lo =>
    have h : i = b ∨ lo ≤ i := h
    show ((Nat.ble nx b && Nat.blt b nx') || (Nat.blt nx nx' && Nat.blt lo nx')) = true
    rcases h with h | h
    · subst h
      have e2 : Nat.blt i nx' = true := by rw [Nat.blt_eq]; exact h2
      rw [Nat.ble_eq_true_of_le h1, e2]; rfl
    · have e1 : Nat.blt nx nx' = true := by rw [Nat.blt_eq]; omega
      have e2 : Nat.blt lo nx' = true := by rw [Nat.blt_eq]; omega
      rw [e1, e2, Bool.and_self, Bool.or_true]

theorem eff_cmp (r : DRun P τ call ops F H E R) {i j : Nat} {lo : WS} {me : Option TypeId} (hi : i < ops.size) (hj : j < ops.size) (hne : i ≠ j) (h1 : E i = .wr lo me)
    (h2 : (∃ lo', Ws E j lo') ∨ E j = .rdAll ∨ (∃ a, E j = .rd a ∧ lo.has a) ∨ ∃ a t, E j = .lk a t ∧ lo.has a ∧ isMe t me = false) :
    compB (Region.before ops).toList (max i j) (min i j) = true := by
  rcases Nat.lt_or_gt_of_ne hne with hlt | hgt
  · rw [Nat.max_eq_right (Nat.le_of_lt hlt), Nat.min_eq_left (Nat.le_of_lt hlt)]
    refine r.sep i j hlt hj ?_
    rw [h1]
    rcases h2 with ⟨lo', me', h2⟩ | h2 | ⟨a, h2, h3⟩ | ⟨a, t, h2, h3, h4⟩ <;> rw [h2]
    · rfl
    · rfl
    · exact hasB_spec h3
    · show (lo.hasB a && !isMe t me) = true
      rw [hasB_spec h3, h4]; rfl
  · rw [Nat.max_eq_left (Nat.le_of_lt hgt), Nat.min_eq_right (Nat.le_of_lt hgt)]
    refine r.sep j i hgt hi ?_
    rw [h1]
    rcases h2 with ⟨lo', me', h2⟩ | h2 | ⟨a, h2, h3⟩ | ⟨a, t, h2, h3, h4⟩ <;> rw [h2]
    · rfl
    · rfl
    · exact hasB_spec h3
    · show (lo.hasB a && !isMe t me) = true
      rw [hasB_spec h3, h4]; rfl

theorem max_comm' (i j : Nat) (b : List Nat) (h : compB b (max i j) (min i j) = true) : compB b (max j i) (min j i) = true := by
  rw [Nat.max_comm, Nat.min_comm]; exact h

section
variable {ρ0 : Ren} {a0 : Act} {w0 : World} {L : Array Bool} {ρ : Ren} {a : Act} {w : World} {i : Nat}

theorem eff_on (r : DRun P τ call ops F H E R) (inv : DInv P ops F H E R ρ0 a0 w0 L ρ a w) (hr : i ∈ Region.ready .any ops L) (hi : i < ops.size) {j : Nat} {lo : WS} (hj : j < ops.size) (hne : j ≠ i) (h1 : Ws E i lo) (h2 : ∃ lo', Ws E j lo') : (On L j ↔ j < i) :=
  let ⟨_, h1⟩ := h1
  cmp_spec inv.closed hr hne (eff_cmp r hi hj (Ne.symm hne) h1 (.inl h2))

/-- A new block has not been written by one that is through. -/
theorem wr_new (r : DRun P τ call ops F H E R) (inv : DInv P ops F H E R ρ0 a0 w0 L ρ a w) (hr : i ∈ Region.ready .any ops L) (hi : i < ops.size) {j id : Nat} (hj : j < ops.size) (h1 : (H i).nx ≤ id) (h2 : id < (H (i + 1)).nx) (hw : Wr H E j id) : i < j ∧ ¬ On L j := by
  obtain ⟨k1, lo, ⟨me, k2⟩, k3⟩ := hw
  have hij : i < j := Nat.lt_of_not_le fun hle => by have := r.nx_le hle (by omega); omega
  refine ⟨hij, fun hon => ?_⟩
  have hc : compB (Region.before ops).toList j i = true := by
    refine r.sep i j hij hj ?_
    rw [k2]
    cases he : E i with
    | non => exact meets_spec k3 h1 h2
    | rd a => have := (r.frm i hi).rd a he; omega
    | lk a t => have := (r.frm i hi).lk a t he; omega
    | bad => have := (r.frm i hi).ok; rw [he] at this; cases this
    | rdAll => rfl
    | wr lo' me' => rfl
  have := cmp_spec inv.closed hr (show j ≠ i by omega) (by rw [Nat.max_eq_right (Nat.le_of_lt hij), Nat.min_eq_left (Nat.le_of_lt hij)]; exact hc)
  have := this.1 hon
  omega

/-- Behind operation i a block that it has made or may have written stays. -/
theorem stay (r : DRun P τ call ops F H E R) (inv : DInv P ops F H E R ρ0 a0 w0 L ρ a w) (hr : i ∈ Region.ready .any ops L) (hi : i < ops.size) {m id : Nat} (hm : m ≤ ops.size) (hid : id < (H m).nx)
    (hA : ((H i).nx ≤ id ∧ id < (H (i + 1)).nx) ∨ Wr H E i id) (hc : Cnd ops H E (L.setIfInBounds i true) m id) : i < m ∧ id < (H (i + 1)).nx ∧ (H m).t.get id = (H (i + 1)).t.get id := by
  have hiL : i < L.size := by rw [inv.size]; exact hi
  have him : i < m := by
    rcases hA with ⟨h1, h2⟩ | hw
    · exact Nat.lt_of_not_le fun hle => by have := r.nx_le hle (by omega); omega
    · exact (hc i hi hw).1 ((On_set hiL).2 (.inr rfl))
  have hid' : id < (H (i + 1)).nx := by
    rcases hA with ⟨h1, h2⟩ | hw
    · exact h2
    · exact Nat.lt_of_lt_of_le hw.1 (r.frm i hi).nx
  refine ⟨him, hid', r.same him hm hid' fun j h1 h2 hw => ?_⟩
  have hjs : j < ops.size := by omega
  have hon : On L j := ((On_set hiL).1 ((hc j hjs hw).2 h2)).resolve_right (by omega)
  rcases hA with ⟨k1, k2⟩ | ⟨_, lo, hlo, _⟩
  · exact (wr_new r inv hr hi hjs k1 k2 hw).2 hon
  · obtain ⟨_, lo', hlo', _⟩ := hw
    have := (eff_on r inv hr hi hjs (by omega) hlo ⟨lo', hlo'⟩).1 hon
    omega

/-- A block that shares its place with one that operation i writes holds nothing. -/
theorem share (r : DRun P τ call ops F H E R) (inv : DInv P ops F H E R ρ0 a0 w0 L ρ a w) (hr : i ∈ Region.ready .any ops L) (hi : i < ops.size) {s : WS} (hE : Ws E i s) {id id2 m : Nat} {pl pl2 : Pl} {hb : HB}
    (hs : s.has id2) (h2 : id2 < (H i).nx) (e2 : ρ id2 = some pl2) (e : ρ id = some pl) (h1 : id < (H i).nx) (hn : ¬ s.has id) (heq : pl.b = pl2.b) (hm : m ≤ ops.size) (hid : id < (H m).nx) (hc : Cnd ops H E L m id)
    (hg : (H m).t.get id = some hb) : hb.live = false := by
  have key : ∀ b, s.top = some b → id2 = b → id ≠ id2 → hb.live = false := by
    intro b htop hbb hn
    subst hbb
    rcases Nat.lt_or_gt_of_ne hn with hlt | hgt
    · exact inv.ord id id2 pl pl2 hb m hm e e2 hlt heq hid hc hg
    · obtain ⟨hb2, g1, g2⟩ := (r.frm i hi).live id2 s hE htop
      have := inv.ord id2 id pl2 pl hb2 i (Nat.le_of_lt hi) e2 e hgt heq.symm h2 (fun j hj hwj => ?_) g1
      · rw [this] at g2; cases g2
      · by_cases hji : j = i
        · subst hji; exact ⟨fun h => absurd h (rdy_spec hr).2.1, fun h => by omega⟩
        · obtain ⟨_, s', hs', _⟩ := hwj
          exact eff_on r inv hr hi hj hji hE ⟨s', hs'⟩
  cases s with
  | no => exact hs.elim
  | rest lo =>
    have hs : lo ≤ id2 := hs
    have hn : ¬ lo ≤ id := hn
    exact inv.ord id id2 pl pl2 hb m hm e e2 (by omega) heq hid hc hg
  | one b =>
    have hs : id2 = b := hs
    subst hs
    have hn : ¬ id = id2 := hn
    exact key id2 rfl rfl hn
  | pair b lo =>
    have hs : id2 = b ∨ lo ≤ id2 := hs
    have hn : ¬ (id = b ∨ lo ≤ id) := hn
    by_cases hb2 : id2 = b
    · subst hb2
      exact key id2 rfl rfl (fun hh => hn (.inl hh))
    · exact inv.ord id id2 pl pl2 hb m hm e e2 (by omega) heq hid hc hg

theorem DInv.next (r : DRun P τ call ops F H E R) (inv : DInv P ops F H E R ρ0 a0 w0 L ρ a w) (hr : i ∈ Region.ready .any ops L) (hi : i < ops.size) {o : Oper} (ho : ops[i]? = some o) {v v' : Value} {ρ1 : Ren} {w1 : World}
    (htc : ∀ t j, WT ops i t → WT ops j t → j ≠ i → (On L j ↔ j < i))
    (hset : (F i).set o.dst v = some (F (i + 1))) (hv : o.dst.isSome = true → VR ρ1 v v')
    (old : ∀ id, id < (H i).nx ∨ (H (i + 1)).nx ≤ id → ρ1 id = ρ id) (hle : ρ.le ρ1)
    (dom1 : ∀ id pl, ρ1 id = some pl → ∃ pl', R ops.size id = some pl')
    (bnd1 : ∀ id pl, ρ1 id = some pl → pl.b < w1.heap.size)
    (sz1 : w.heap.size ≤ w1.heap.size)
    (chg1 : ∀ b, b < w.heap.size → (∀ id pl, id < (H i).nx → (∃ lo, Ws E i lo ∧ lo.has id) → ρ id = some pl → pl.b ≠ b) → w1.heap[b]? = w.heap[b]?)
    (new1 : ∀ id pl, (H i).nx ≤ id → id < (H (i + 1)).nx → ρ1 id = some pl → w.heap.size ≤ pl.b ∨ ∃ j pj lo, Ws E i lo ∧ lo.has j ∧ j < (H i).nx ∧ ρ j = some pj ∧ pj.b = pl.b)
    (mem1 : ∀ id pl hb, ((H i).nx ≤ id ∧ id < (H (i + 1)).nx) ∨ Wr H E i id → ρ1 id = some pl → (H (i + 1)).t.get id = some hb → BR P ρ1 pl w1 hb)
    (ord1 : ∀ id id' pl pl' hb, id < id' → id' < (H (i + 1)).nx → ((H i).nx ≤ id ∧ id < (H (i + 1)).nx) ∨ Wr H E i id → ρ1 id = some pl → ρ1 id' = some pl' → pl.b = pl'.b → (H (i + 1)).t.get id = some hb → hb.live = false)
    (hos : w1.os = w.os) (hout : w1.output = w.output) (htape : w1.tape = w.tape) (hdr : w.drawn ≤ w1.drawn) :
    DInv P ops F H E R ρ0 a0 w0 (L.setIfInBounds i true) ρ1 (a.put o.dst v') w1 := by
  have hiL : i < L.size := by rw [inv.size]; exact hi
  have hn : ¬ On L i := (rdy_spec hr).2.1
  have hnx := (r.frm i hi).nx
  have hon : ∀ {j}, j ≠ i → (On (L.setIfInBounds i true) j ↔ On L j) := fun hne => (On_set hiL).trans ⟨fun h => h.resolve_right hne, .inl⟩
  have h0i := r.nx_le (Nat.zero_le i) (Nat.le_of_lt hi)
  -- a block that is not operation i's
  have other : ∀ {m id}, ¬ (((H i).nx ≤ id ∧ id < (H (i + 1)).nx) ∨ Wr H E i id) → Cnd ops H E (L.setIfInBounds i true) m id → (id < (H i).nx ∨ (H (i + 1)).nx ≤ id) ∧ Cnd ops H E L m id := by
    intro m id hA hc
    refine ⟨?_, fun j hj hw => ?_⟩
    · rcases Nat.lt_or_ge id (H i).nx with h | h
      · exact .inl h
      · exact .inr (Nat.le_of_not_lt fun hh => hA (.inl ⟨h, hh⟩))
    · have hne : j ≠ i := fun e => hA (.inr (e ▸ hw))
      rw [← hon hne]; exact hc j hj hw
  -- a block behind operation i's, made by one that is through
  have later : ∀ {id pl}, ρ id = some pl → (H (i + 1)).nx ≤ id → ∃ j, j < ops.size ∧ On L j ∧ i < j ∧ (H j).nx ≤ id ∧ id < (H (j + 1)).nx := by
    intro id pl e hid
    rcases inv.made id pl e with h | ⟨j, h1, h2, h3, h4⟩
    · omega
    · refine ⟨j, h1, h2, ?_, h3, h4⟩
      exact Nat.lt_of_not_le fun hle => by have := r.nx_le (p := j + 1) (m := i + 1) (by omega) (by omega); omega
  -- if operation i writes, that one does not
  have laterN : ∀ {j lo}, j < ops.size → On L j → i < j → Ws E i lo → ∀ lo', ¬ Ws E j lo' := by
    intro j lo hj hon hij hE lo' hE'
    have := (eff_on r inv hr hi hj (by omega) hE ⟨lo', hE'⟩).1 hon
    omega
  refine ⟨?_, ?_, ?_, ?_, ?_, bnd1, ?_, ?_, dom1, ?_, ?_, ?_, Nat.le_trans inv.gsize sz1, ?_, ?_, hos.trans inv.os, hout.trans inv.out, htape.trans inv.tape, Nat.le_trans inv.drawn hdr⟩
  · rw [Array.size_setIfInBounds]; exact inv.size
  · have := rdy_closed inv.closed hr
    intro j oj e hoj hm hb hj
    exact (On_set hiL).2 (this j oj e hoj hm hb ((On_set hiL).1 hj))
  · rw [inv.sz]
    cases o.dst <;> simp [Act.put]
  · -- temporaries
    intro t m u hm hc hu
    by_cases hwt : WT ops i t
    · have him : i < m := (hc i hwt).1 ((On_set hiL).2 (.inr rfl))
      obtain ⟨o', ho', hd⟩ := hwt
      rw [ho] at ho'; cases ho'
      rw [r.tm him hm fun j h1 h2 hwj => by
        have hone : On L j := (hon (by omega)).1 ((hc j hwj).2 h2)
        have := (htc t j ⟨o, ho, hd⟩ hwj (by omega)).1 hone
        omega] at hu
      have hf := (set_facts hset).2.2.2 t hd
      rw [hf.2] at hu; cases hu
      refine ⟨v', ?_, hv (by rw [hd]; rfl)⟩
      rw [hd]
      have : t < a.tmps.size := by rw [← inv.sz, ← (r.sz (Nat.le_of_lt hi)).1]; exact hf.1
      simp [Act.put, this]
    · obtain ⟨u', h1, h2⟩ := inv.tm t m u hm (fun j hwj => by
        have hne : j ≠ i := fun e => hwt (e ▸ hwj)
        rw [← hon hne]; exact hc j hwj) hu
      refine ⟨u', ?_, h2.mono hle⟩
      cases hd : o.dst with
      | none => exact h1
      | some d =>
        have hne : d ≠ t := fun e => hwt ⟨o, ho, by rw [hd, e]⟩
        simp only [Act.put]
        rw [Array.getElem?_setIfInBounds_ne hne]; exact h1
  · cases o.dst <;> exact inv.ds
  · intro id pl e
    by_cases hid : (H i).nx ≤ id ∧ id < (H (i + 1)).nx
    · exact .inr ⟨i, hi, (On_set hiL).2 (.inr rfl), hid⟩
    · rw [old id (by omega)] at e
      exact (inv.made id pl e).imp (fun h => h) fun ⟨j, h1, h2, h3⟩ => ⟨j, h1, (On_set hiL).2 (.inl h2), h3⟩
  · intro id hid
    rw [old id (.inl (by omega))]; exact inv.ext id hid
  · -- blocks
    intro id pl hb m hm e hid hc hget
    by_cases hA : ((H i).nx ≤ id ∧ id < (H (i + 1)).nx) ∨ Wr H E i id
    · obtain ⟨_, _, hs⟩ := stay r inv hr hi hm hid hA hc
      rw [hs] at hget
      exact mem1 id pl hb hA e hget
    · obtain ⟨ho1, hc'⟩ := other hA hc
      rw [old id ho1] at e
      have hbr := inv.mem id pl hb m hm e hid hc' hget
      cases hlv : hb.live with
      | false => cases hb <;> simp [HB.live] at hlv; trivial
      | true =>
        refine hbr.mono hle (chg1 _ (inv.bnd id pl e) fun id2 pl2 h2 hlo e2 heq => ?_)
        obtain ⟨lo, hE, hlo⟩ := hlo
        rcases ho1 with hlt | hge
        · have := share r inv hr hi hE hlo h2 e2 e hlt (fun hh => hA (.inr ⟨hlt, lo, hE, hh⟩)) heq.symm hm hid hc' hget
          rw [this] at hlv; cases hlv
        · obtain ⟨j, j1, j2, j3, j4, j5⟩ := later e hge
          exact inv.cre id id2 pl pl2 j j1 j4 j5 (laterN j1 j2 j3 hE) e e2 (Nat.lt_of_lt_of_le h2 (r.nx_le (Nat.le_of_lt j3) (Nat.le_of_lt j1))) heq
  · -- which block shares its place
    intro id id' pl pl' hb m hm e e' hlt heq hid hc hget
    by_cases hA : ((H i).nx ≤ id ∧ id < (H (i + 1)).nx) ∨ Wr H E i id
    · obtain ⟨_, hid1, hs⟩ := stay r inv hr hi hm hid hA hc
      rw [hs] at hget
      rcases Nat.lt_or_ge id' (H (i + 1)).nx with h' | h'
      · exact ord1 id id' pl pl' hb hlt h' hA e e' heq hget
      · rw [old id' (.inr h')] at e'
        obtain ⟨j, j1, j2, j3, j4, j5⟩ := later e' h'
        have hij := r.nx_le (Nat.le_of_lt j3) (Nat.le_of_lt j1)
        rcases hA with ⟨k1, k2⟩ | ⟨k1, lo, hE, k2⟩
        · rcases new1 id pl k1 k2 e with hn1 | ⟨jj, pj, lo, hE, n1, n2, n3, n4⟩
          · have := inv.bnd id' pl' e'; omega
          · exact absurd (n4.trans heq) (inv.cre id' jj pl' pj j j1 j4 j5 (laterN j1 j2 j3 hE) e' n3 (by omega))
        · rw [old id (.inl k1)] at e
          exact absurd heq (inv.cre id' id pl' pl j j1 j4 j5 (laterN j1 j2 j3 hE) e' e (by omega))
    · obtain ⟨ho1, hc'⟩ := other hA hc
      rw [old id ho1] at e
      by_cases hid' : (H i).nx ≤ id' ∧ id' < (H (i + 1)).nx
      · have hlt' : id < (H i).nx := by omega
        rcases new1 id' pl' hid'.1 hid'.2 e' with hn1 | ⟨jj, pj, lo, hE, n1, n2, n3, n4⟩
        · have := inv.bnd id pl e; omega
        · exact share r inv hr hi hE n1 n2 n3 e hlt' (fun hh => hA (.inr ⟨hlt', lo, hE, hh⟩)) (heq.trans n4.symm) hm hid hc' hget
      · rw [old id' (by omega)] at e'
        exact inv.ord id id' pl pl' hb m hm e e' hlt heq hid hc' hget
  · -- new places
    intro id id' pl pl' j hj h1 h2 hnw e e' hlt
    by_cases hji : j = i
    · subst hji
      rw [old id' (.inl hlt)] at e'
      have := inv.bnd id' pl' e'
      rcases new1 id pl h1 h2 e with hn1 | ⟨_, _, lo, hE, _⟩
      · omega
      · exact absurd hE (hnw lo)
    · have hido : id < (H i).nx ∨ (H (i + 1)).nx ≤ id := by
        rcases Nat.lt_or_ge id (H i).nx with h | h
        · exact .inl h
        · exact .inr (Nat.le_of_not_lt fun hh => hji (r.maker_eq hj hi h1 h2 h hh))
      rw [old id hido] at e
      by_cases hid' : (H i).nx ≤ id' ∧ id' < (H (i + 1)).nx
      · have hij : i < j := Nat.lt_of_not_le fun hle => by have := r.nx_le hle (Nat.le_of_lt hi); omega
        have hnij := r.nx_le (Nat.le_of_lt hij) (Nat.le_of_lt hj)
        have := inv.bnd id pl e
        rcases new1 id' pl' hid'.1 hid'.2 e' with hn1 | ⟨jj, pj, lo, hE, n1, n2, n3, n4⟩
        · omega
        · rw [← n4]; exact inv.cre id jj pl pj j hj h1 h2 hnw e n3 (by omega)
      · rw [old id' (by omega)] at e'
        exact inv.cre id id' pl pl' j hj h1 h2 hnw e e' hlt
  · -- what stood before the region
    intro b hb hh
    rw [chg1 b (Nat.lt_of_lt_of_le hb inv.gsize) fun id pl h1 hlo e heq => ?_]
    · exact inv.chg b hb hh
    · obtain ⟨lo, hE, hlo⟩ := hlo
      have hlow : (H ops.size).lo.has id := r.lo_le (p := i + 1) hi (Nat.le_refl _) _ ((r.frm i hi).wr lo hE _ hlo)
      rcases Nat.lt_or_ge id (H 0).nx with h | h
      · rw [inv.ext id h] at e; exact hh id pl hlow e heq
      · rcases inv.new id pl h e with h' | ⟨j, pj, j1, j2, j3⟩
        · omega
        · exact hh j pj j1 j2 (j3.trans heq)
  · intro id pl hid e
    by_cases hidn : (H i).nx ≤ id ∧ id < (H (i + 1)).nx
    · rcases new1 id pl hidn.1 hidn.2 e with hn1 | ⟨jj, pj, lo, hE, n1, n2, n3, n4⟩
      · exact .inl (Nat.le_trans inv.gsize hn1)
      · have hlow : (H ops.size).lo.has jj := r.lo_le (p := i + 1) hi (Nat.le_refl _) _ ((r.frm i hi).wr lo hE _ n1)
        rcases Nat.lt_or_ge jj (H 0).nx with h | h
        · rw [inv.ext jj h] at n3; exact .inr ⟨jj, pj, hlow, n3, n4⟩
        · rw [← n4]; exact inv.new jj pj h n3
    · rw [old id (by omega)] at e; exact inv.new id pl hid e
end
end
end Go.Ev
end

section
/-
  Regions whose order is drawn: what the check of a region says.
-/
namespace Go.Ev

theorem soleFrom_spec {t j : Nat} : ∀ (l : List Oper) (i : Nat), soleFrom t j i l = true → ∀ k o, l[k]? = some o → o.dst = some t → i + k = j
  | [], _, _, k, o, h, _ => by simp at h
  | x :: l, i, hs, k, o, h, hd => by
    simp only [soleFrom, Bool.and_eq_true, Bool.or_eq_true] at hs
    cases k with
    | zero =>
      simp at h; subst h
      rcases hs.1 with h1 | h1
      · have := Nat.eq_of_beq_eq_true h1; omega
      · rw [hd] at h1; simp at h1
    | succ k =>
      simp at h
      have := soleFrom_spec l (i + 1) hs.2 k o h hd
      omega
theorem sole_spec {ops : Array Oper} {g : Nat} {w : Bool} (h : soleB ops.toList (some (g, w)) = true) : ∃ og t, ops[g]? = some og ∧ og.dst = some t ∧ ∀ j, WT ops j t → j = g := by
  unfold soleB at h
  simp only [] at h
  split at h
  case h_2 => cases h
  rename_i o ho
  split at h
  case h_2 => cases h
  rename_i t ht
  refine ⟨o, t, by simpa using ho, ht, fun j hj => ?_⟩
  obtain ⟨oj, hoj, hd⟩ := hj
  have := soleFrom_spec _ _ h j oj (by simpa using hoj) hd
  omega

theorem modify_getD {α : Type} {A : Array (List α)} {k : Nat} {x : α} {j : Nat} : ∀ {y : α}, y ∈ A.getD j [] → y ∈ (A.modify k (x :: ·)).getD j [] := by
  intro y hy
  rw [Array.getD_eq_getD_getElem?] at *
  rw [Array.getElem?_modify]
  by_cases h : k = j
  · rw [if_pos h]
    cases hA : A[j]? with
    | none => rw [hA] at hy; simp at hy
    | some l => rw [hA] at hy; simp at hy ⊢; exact .inr hy
  · rw [if_neg h]; exact hy
theorem modify_new {α : Type} {A : Array (List α)} {k : Nat} {x : α} (hk : k < A.size) : x ∈ (A.modify k (x :: ·)).getD k [] := by
  rw [Array.getD_eq_getD_getElem?, Array.getElem?_modify, if_pos rfl, Array.getElem?_eq_getElem hk]
  simp

def wF (n : Nat) (w : Array (List (Tmp × Nat))) (x : Oper × Nat) : Array (List (Tmp × Nat)) := match x.1.dst with | some d => w.modify (d % n) ((d, x.2) :: ·) | none => w
theorem writers_spec {n : Nat} : ∀ (l : List (Oper × Nat)) (W : Array (List (Tmp × Nat))), W.size = n →
    (∀ k y, y ∈ W.getD k [] → y ∈ (l.foldl (wF n) W).getD k []) ∧
    (∀ x ∈ l, ∀ d, x.1.dst = some d → d % n < n → (d, x.2) ∈ (l.foldl (wF n) W).getD (d % n) [])
  | [], W, _ => ⟨fun _ _ h => h, fun x hx => by cases hx⟩
  | x :: l, W, hW => by
    rw [List.foldl_cons]
    cases hd : x.1.dst with
    | none =>
      have hw : wF n W x = W := by simp [wF, hd]
      rw [hw]
      obtain ⟨h1, h2⟩ := writers_spec l W hW
      refine ⟨h1, fun y hy d hyd hlt => ?_⟩
      rcases List.mem_cons.1 hy with rfl | hy
      · rw [hd] at hyd; cases hyd
      · exact h2 y hy d hyd hlt
    | some d0 =>
      have hw : wF n W x = W.modify (d0 % n) ((d0, x.2) :: ·) := by simp [wF, hd]
      rw [hw]
      obtain ⟨h1, h2⟩ := writers_spec (n := n) l (W.modify (d0 % n) ((d0, x.2) :: ·)) (by rw [Array.size_modify]; exact hW)
      refine ⟨fun k y hy => h1 k y (modify_getD hy), fun y hy d hyd hlt => ?_⟩
      rcases List.mem_cons.1 hy with rfl | hy
      · rw [hd] at hyd; cases hyd
        exact h1 _ _ (modify_new (by rw [hW]; exact hlt))
      · exact h2 y hy d hyd hlt

/-- What is asked of a region that draws. -/
structure RegOk (ops : Array Oper) : Prop where
  lt : ∀ (i : Nat) (o : Oper) (e : Edge), ops[i]? = some o → e ∈ o.after → Region.binds .any e = true → e.on < i
  guard : ∀ (i : Nat) (o : Oper) (g : Nat) (w : Bool), ops[i]? = some o → o.guard = some (g, w) → ∃ e ∈ o.after, e.on = g ∧ Region.binds .any e = true
  tmp : ∀ (i : Nat) (o : Oper) (t : Tmp), ops[i]? = some o → (o.dst = some t ∨ Operand.tmp t ∈ o.op.operands) → ∀ j, WT ops j t → j ≠ i → compB (Region.before ops).toList (max i j) (min i j) = true

theorem regOk {types : Array TypeInfo} {ops : Array Oper} {d : Bool} (h : Region.ok types ops d = true) : RegOk ops := by
  unfold Region.ok at h
  simp only [Bool.and_eq_true] at h
  obtain ⟨⟨⟨⟨h1, h2⟩, _⟩, _⟩, _⟩ := h
  have hall : ∀ (i : Nat) (o : Oper), ops[i]? = some o → (o.after.all (fun e => decide (e.on < i) || (match e.ground with | .gcOnly _ => e.on != i && decide (e.on < ops.size) | _ => false)) &&
    (match o.guard with | none => true | some (j, _) => o.after.any (fun e => e.on == j && Region.binds .any e) && ((ops[j]?).bind (·.dst)).isSome)) = true := by
    intro i o ho
    rw [Array.all_eq_true_iff_forall_mem] at h1
    exact h1 (o, i) (by rw [Array.mk_mem_zipIdx_iff_getElem?]; exact ho)
  refine ⟨fun i o e ho he hb => ?_, fun i o g w ho hg => ?_, fun i o t ho ht j hj hne => ?_⟩
  · have := hall i o ho
    simp only [Bool.and_eq_true] at this
    have := Array.all_eq_true_iff_forall_mem.1 this.1 e he
    simp only [Bool.or_eq_true, decide_eq_true_eq] at this
    rcases this with h | h
    · exact h
    · unfold Region.binds at hb
      cases hgr : e.ground <;> rw [hgr] at h hb <;> simp_all
  · have := hall i o ho
    simp only [Bool.and_eq_true, hg] at this
    obtain ⟨k, hk, h3⟩ := Array.any_eq_true.1 this.2.1
    have he : o.after[k] ∈ o.after := Array.getElem_mem hk
    generalize o.after[k] = e at h3 he
    simp only [Bool.and_eq_true, beq_iff_eq] at h3
    exact ⟨e, he, h3.1, h3.2⟩
  · unfold Region.temporariesOk at h2
    simp only [] at h2
    rw [List.all_eq_true] at h2
    obtain ⟨oj, hoj, hd⟩ := hj
    have hlt : j < ops.size := (Array.getElem?_eq_some_iff.1 hoj).1
    have h3 := h2 (o, i) (by rw [List.mk_mem_zipIdx_iff_getElem?]; simpa using ho)
    simp only [] at h3
    rw [List.all_eq_true] at h3
    have h4 := h3 t (by
      rcases ht with h | h
      · simp [h]
      · refine List.mem_append_right _ (List.mem_filterMap.2 ⟨.tmp t, by simpa using h, rfl⟩))
    rw [List.all_eq_true] at h4
    have hw := (writers_spec (n := ops.size) ops.toList.zipIdx (Array.replicate ops.size []) (by simp)).2 (oj, j) (by rw [List.mk_mem_zipIdx_iff_getElem?]; simpa using hoj) t hd (Nat.mod_lt _ (by omega))
    have h5 := h4 (t, j) hw
    simp only [bne_self_eq_false, Bool.false_or, Bool.or_eq_true, beq_iff_eq] at h5
    have h6 := h5.resolve_left hne
    have hmax : max j i = max i j := Nat.max_comm _ _
    have hmin : min j i = min i j := Nat.min_comm _ _
    rw [hmax, hmin] at h6
    have hlt2 : min i j < max i j := by omega
    rw [compB_lt hlt2]
    have : (Region.before ops).toList.getD (max i j) 0 = (Region.before ops).getD (max i j) 0 := by
      rw [Array.getD_eq_getD_getElem?, List.getD_eq_getElem?_getD, Array.getElem?_toList]
    rw [this]; exact h6
end Go.Ev
end
