/-
  The evaluator of closed runs (a part): EvS4, EvS5, EvS6.
-/
import Derived.Test.YtehhkecoedbjoaaGreatDoorEv2
import Derived.Laws.StructEq
set_option linter.unusedVariables false
set_option linter.unusedSimpArgs false
set_option linter.unusedSectionVars false
section
/-
  Stores.
-/
namespace Go.Ev
section
variable {P : Program} {τ : Tab} {ρ : Ren} {h : Hp} {w : World}

def setL (C : Array Value) : Nat → List Value → Array Value
  | _, [] => C
  | i, v :: l => setL (C.setIfInBounds i v) (i + 1) l
theorem setL_size : ∀ (l : List Value) (C : Array Value) (i : Nat), (setL C i l).size = C.size
  | [], _, _ => rfl
  | v :: l, C, i => by simp [setL, setL_size l]
theorem setL_get : ∀ (l : List Value) (C : Array Value) (i j : Nat), i + l.length ≤ C.size → (setL C i l)[j]? = if i ≤ j ∧ j < i + l.length then l[j - i]? else C[j]?
  | [], C, i, j, _ => by simp [setL]; omega
  | v :: l, C, i, j, hs => by
    simp only [List.length_cons] at hs
    have hs' : i + 1 + l.length ≤ (C.setIfInBounds i v).size := by simp; omega
    rw [setL, setL_get l _ (i + 1) j hs']
    by_cases h1 : i + 1 ≤ j ∧ j < i + 1 + l.length
    · rw [if_pos h1, if_pos (by simp; omega)]
      obtain ⟨d, rfl⟩ : ∃ d, j = i + 1 + d := ⟨j - i - 1, by omega⟩
      rw [show i + 1 + d - (i + 1) = d by omega, show i + 1 + d - i = d + 1 by omega]; simp
    · rw [if_neg h1]
      by_cases h2 : j = i
      · subst h2
        rw [if_pos (by simp)]
        simp [show j < C.size by omega]
      · rw [if_neg (by simp; omega)]
        rw [Array.getElem?_setIfInBounds_ne (by omega)]

theorem setCell_eq {b o : Nat} {v : Value} {C : Array Value} {e : TypeId} {fz : Nat × Nat} (hb : w.heap[b]? = some (.cells C e fz)) :
    w.setCell ⟨b, o, none⟩ v = { w with heap := w.heap.setIfInBounds b (.cells (C.setIfInBounds o v) e fz) } := by
  unfold World.setCell
  congr 1
  apply Array.ext_getElem?
  intro i
  by_cases hi : i = b
  · subst hi
    have hlt : i < w.heap.size := (Array.getElem?_eq_some_iff.1 hb).1
    have he := (Array.getElem?_eq_some_iff.1 hb).2
    rw [Array.getElem?_modify, if_pos rfl, hb]
    simp [hlt]
  · rw [Array.getElem?_modify]
    rw [Array.getElem?_setIfInBounds_ne (Ne.symm hi)]
    simp [Ne.symm hi]

theorem run_storeCells (b o : Nat) (e : TypeId) (fz : Nat × Nat) : ∀ (vs : List Value) (i : Nat) (C : Array Value) (w : World), w.heap[b]? = some (.cells C e fz) →
    (∀ u ∈ vs, u.oneCell' = true) → o + i + vs.length ≤ C.size → (∀ j, j < vs.length → ¬ (fz.1 ≤ o + i + j ∧ o + i + j < fz.2)) →
    (storeCells ⟨b, o, none⟩ vs i).run P w = .ok () { w with heap := w.heap.setIfInBounds b (.cells (setL C (o + i) vs) e fz) }
  | [], i, C, w, hb, _, _, _ => by
    have hlt := (Array.getElem?_eq_some_iff.1 hb).1
    have he := (Array.getElem?_eq_some_iff.1 hb).2
    have : w.heap.setIfInBounds b (.cells C e fz) = w.heap := by
      apply Array.ext_getElem?
      intro j
      by_cases hj : j = b
      · subst hj; simp [hlt, he]
      · rw [Array.getElem?_setIfInBounds_ne (Ne.symm hj)]
    simp [storeCells, setL, this]
  | v :: vs, i, C, w, hb, h1, h2, h3 => by
    simp only [List.length_cons] at h2 h3
    have hlt := (Array.getElem?_eq_some_iff.1 hb).1
    have hcell : w.cell? ⟨b, o + i, none⟩ = some C[o + i] := by simp [World.cell?, hb, show o + i < C.size by omega]
    have hfr : w.frozen? ⟨b, o + i, none⟩ = false := by
      have := h3 0 (by omega)
      simp only [World.frozen?, hb]
      simpa using this
    have ih := run_storeCells b o e fz vs (i + 1) (C.setIfInBounds (o + i) v) { w with heap := w.heap.setIfInBounds b (.cells (C.setIfInBounds (o + i) v) e fz) }
      (by simp [hlt]) (fun u hu => h1 u (List.mem_cons_of_mem _ hu)) (by simp; omega) (fun j hj => by have := h3 (j + 1) (by omega); rwa [show o + i + (j + 1) = o + (i + 1) + j by omega] at this)
    simp only [storeCells, Sem.run_bind, addr_add, run_store P w _ v _ (h1 v (List.mem_cons_self ..)), hcell, hfr, Bool.false_eq_true, if_false, Result.andThen_ok, setCell_eq hb]
    rw [ih]
    simp only [setL]
    congr 2
    rw [show o + (i + 1) = o + i + 1 by omega]
    apply Array.ext_getElem?
    intro j
    by_cases hj : j = b
    · subst hj; simp [hlt]
    · rw [Array.getElem?_setIfInBounds_ne (Ne.symm hj), Array.getElem?_setIfInBounds_ne (Ne.symm hj), Array.getElem?_setIfInBounds_ne (Ne.symm hj)]

theorem free_spec {n lo hi off k : Nat} (hf : free n lo hi off k = true) : off + k ≤ n ∧ (hi ≤ lo ∨ off + k ≤ lo ∨ hi ≤ off) := by
  simp only [free, Bool.and_eq_true, Bool.or_eq_true] at hf
  refine ⟨Nat.le_of_ble_eq_true hf.1, ?_⟩
  rcases hf.2 with (h | h) | h
  · exact .inl (Nat.le_of_ble_eq_true h)
  · exact .inr (.inl (Nat.le_of_ble_eq_true h))
  · exact .inr (.inr (Nat.le_of_ble_eq_true h))

/-- Which cells of a place may be written. -/
theorem fz_free {fz : Nat × Nat} {po lo hi sz off k n : Nat} (hfz : fz.1 = fz.2 ∨ (lo = 1 ∧ hi = 0 ∧ sz ≤ fz.1) ∨ (po + lo ≤ fz.1 ∧ fz.1 ≤ fz.2 ∧ fz.2 ≤ po + hi)) (hf : off + k ≤ n) (hn : po + n ≤ sz)
    (hc : hi ≤ lo ∨ off + k ≤ lo ∨ hi ≤ off) : ∀ j, j < k → ¬ (fz.1 ≤ po + off + j ∧ po + off + j < fz.2) := by
  intro j hj ⟨h1, h2⟩
  rcases hfz with h | ⟨_, _, h⟩ | ⟨h, _, h'⟩ <;> omega

theorem storeB_sound (hk : Hkt P τ ρ h w) {pl : Pl} {id off : Nat} {vs vs' : List Value} {h' : Hp} (e : ρ id = some pl) (hs : storeB h id off vs = some h') (hl : LR ρ vs vs') :
    ∃ w', (storeCells ⟨pl.b, pl.o + off, none⟩ vs').run P w = .ok () w' ∧ Hkt P τ ρ h' w' ∧ Stp ρ w h.nx ρ w' h'.nx h'.lo ∧ h'.lo ≤ h.lo := by
  unfold storeB at hs
  cases eH : h.t.get id with
  | none => simp [eH] at hs
  | some hb =>
    cases hb with
    | cells c n el lo hi x =>
      simp only [eH] at hs
      cases hc : free n lo hi off vs.length && vs.all one with
      | false => simp [hc] at hs
      | true =>
        simp only [hc, cond_true, Option.some.injEq] at hs
        subst hs
        simp only [Bool.and_eq_true] at hc
        obtain ⟨hc1, hc2⟩ := hc
        obtain ⟨hb1, hb2⟩ := free_spec hc1
        have hbr := hk.1.hr id pl _ e eH
        obtain ⟨C, fz, g1, g2, g3, g4, g5, g6⟩ := hbr
        have hlen := hl.length
        have hrun := run_storeCells (P := P) pl.b (pl.o + off) el fz vs' 0 C w g1 (hl.one_all hc2) (by omega) (fun j hj => by have := fz_free g5 hb1 g2 hb2 j (by omega); simpa using this)
        refine ⟨_, hrun, ?_⟩
        have hlt := (Array.getElem?_eq_some_iff.1 g1).1
        have hBR : BR P ρ pl { w with heap := w.heap.setIfInBounds pl.b (.cells (setL C (pl.o + off + 0) vs') el fz) } (.cells (T.laid vs off c) n el lo hi x) := by
          refine ⟨setL C (pl.o + off + 0) vs', fz, by simp [hlt], by rw [setL_size]; exact g2, fun i hi' => by rw [setL_size]; exact g3 i hi', fun i v hv => ?_, by rw [setL_size]; exact g5, by rw [setL_size]; exact g6⟩
          rw [T.get_laid] at hv
          rw [setL_get _ _ _ _ (by omega)]
          by_cases hi' : off ≤ i ∧ i < off + vs.length
          · rw [if_pos hi'] at hv
            obtain ⟨v', a1, a2⟩ := hl.get hv
            refine ⟨by omega, v', ?_, a2⟩
            rw [if_pos (by omega), show pl.o + i - (pl.o + off + 0) = i - off by omega]; exact a1
          · rw [if_neg hi'] at hv
            obtain ⟨a1, v', a2, a3⟩ := g4 i v hv
            refine ⟨a1, v', ?_, a3⟩
            rw [if_neg (by omega)]; exact a2
        obtain ⟨k1, k2⟩ := hk.write e eH rfl (by simp) (fun b hb => by show (w.heap.setIfInBounds pl.b _)[b]? = _; rw [Array.getElem?_setIfInBounds_ne (Ne.symm hb)]) hBR rfl rfl rfl
        exact ⟨k1, k2, (h.low_le id).1⟩
    | _ => simp [eH] at hs

theorem storeAt_sound (T : TabOk P τ) (hk : Hkt P τ ρ h w) {pl : Pl} {id off : Nat} {t : TypeId} {v v' : Value} {h' : Hp} (e : ρ id = some pl) (hs : storeAtB τ t h id off v = some h') (hv : VR ρ v v') :
    ∃ w', (storeVar t ⟨pl.b, pl.o + off, none⟩ v').run P w = .ok () w' ∧ Hkt P τ ρ h' w' ∧ Stp ρ w h.nx ρ w' h'.nx h'.lo ∧ h'.lo ≤ h.lo := by
  unfold storeAtB at hs
  cases hi : τ.inf.get t with
  | none => simp [hi] at hs
  | some i =>
    simp only [hi] at hs
    cases hc : Nat.beq (cellsOfV v).length i.size with
    | false => simp [hc] at hs
    | true =>
      simp only [hc, cond_true] at hs
      have hsz := Nat.eq_of_beq_eq_true hc
      obtain ⟨w', h1, h2⟩ := storeB_sound hk e hs hv.cellsOf
      refine ⟨w', ?_, h2⟩
      have : v'.cells.size = i.size := by rw [← hsz, hv.cellsOf.length, Array.length_toList]
      simp [storeVar, run_sizeOf (T.inf t i hi), this, h1]
end
end Go.Ev
end

section
/-
  Parts, equality, arithmetic.
-/
namespace Go.Ev
section
variable {P : Program} {τ : Tab} {ρ : Ren} {h : Hp} {w : World}

theorem agg_eq {a : Array Value} {l : List Value} (h : a.toList = l) : (Value.agg a) = .agg ⟨l⟩ := by subst h; rfl

theorem partB_sound (T : TabOk P τ) {t : TypeId} {cs cs' : List Value} {off : Nat} {v : Value} (hp : partB τ t cs off = some v) (hl : LR ρ cs cs') (w : World) :
    ∃ v', (part t ⟨cs'⟩ off).run P w = .ok v' w ∧ VR ρ v v' := by
  unfold partB at hp
  cases hd : τ.ds.get t with
  | none => simp [hd] at hp
  | some d =>
    simp only [hd] at hp
    simp only [part, Sem.run_bind, run_isAgg (T.ds t d hd), Result.andThen_ok]
    cases ha : isAggD d with
    | true =>
      simp only [ha, cond_true] at hp
      cases hi : τ.inf.get t with
      | none => simp [hi] at hp
      | some i =>
        simp only [hi, Option.some.injEq] at hp
        subst hp
        refine ⟨.agg ⟨(cs'.drop off).take i.size⟩, ?_, .agg ((hl.drop off).take i.size)⟩
        simp only [if_true, Sem.run_bind, run_sizeOf (T.inf t i hi), Result.andThen_ok, Sem.run_pure]
        congr 1
        refine agg_eq ?_
        simp [List.drop_take]
    | false =>
      simp only [ha, cond_false] at hp
      obtain ⟨v', h1, h2⟩ := hl.get hp
      exact ⟨v', by simp [h1], h2⟩

theorem andThen_of_ok {α β : Type} {r : Result α} {a : α} {w : World} (h : r = .ok a w) (f : α → World → Result β) : r.andThen f = f a w := by rw [h]; rfl

theorem eqB_sound (T : TabOk P τ) : ∀ (d : Nat) (t : TypeId) (x y x' y' : Value) (b : Bool) (w : World), eqB τ d t x y = some b → VR ρ x x' → VR ρ y y' →
    (Op.equalIn d t x' y').run P w = .ok b w := by
  intro d
  induction d with
  | zero => intro t x y x' y' b w he; simp [eqB] at he
  | succ d ih =>
    intro t x y x' y' b w he hx hy
    simp only [eqB] at he
    cases hd : τ.ds.get t with
    | none => simp [hd] at he
    | some td =>
      have hu := run_underlying (T.ds t td hd)
      simp only [hd] at he
      split at he
      · cases hx; cases hy; simp at he; simp [Op.equalIn, hu, he]
      · cases hx; cases hy
        split at he
        · rename_i hk; subst hk; simp at he; simp [Op.equalIn, hu, he]
        · cases he
      · cases hx; cases hy; rw [eqS_bytes] at he; simp at he; simp [Op.equalIn, hu, he]
      · cases hx; cases hy <;> (simp at he; subst he; simp [Op.equalIn, hu])
      · cases hx; cases hy; simp at he; subst he; simp [Op.equalIn, hu]
      · cases hx; cases hy; simp at he; subst he; simp [Op.equalIn, hu]
      · cases hx; cases hy; simp at he; subst he; simp [Op.equalIn, hu]
      · cases hx; cases hy <;> (simp at he; subst he; simp [Op.equalIn, hu])
      · cases hx; cases hy; simp at he; subst he; simp [Op.equalIn, hu]
      · cases hx; cases hy <;> (simp at he; subst he; simp [Op.equalIn, hu])
      · cases hx; cases hy; simp at he; subst he; simp [Op.equalIn, hu]
      · cases hx; cases hy; simp at he; subst he; simp [Op.equalIn, hu]
      · cases hx; cases hy; simp at he; subst he; simp [Op.equalIn, hu]
      · cases hx; cases hy; simp at he; subst he; simp [Op.equalIn, hu]
      · rename_i fields xs ys
        cases hq : τ.eqOk t with
        | false => simp [hq] at he
        | true =>
          simp only [hq, cond_true] at he
          obtain ⟨xl⟩ := xs
          obtain ⟨yl⟩ := ys
          cases hx with | agg hlx =>
          cases hy with | agg hly =>
          have hf : P.fieldsOf t = fields := by simp [Program.fieldsOf, T.ds t _ hd]
          rw [run_equalIn_struct w d t _ _ (by rw [hf]; exact T.ds t _ hd) (T.eq t hq).1, hf]
          clear hd hu hf hq
          generalize fields.toList = fs at he
          induction fs generalizing b with
          | nil => simp at he; subst he; simp [Op.eqFields]
          | cons f fs ihf =>
            simp only [List.foldr_cons] at he
            simp only [Op.eqFields]
            by_cases hn : f.name = "_"
            · rw [if_pos hn] at he
              rw [if_neg (by simpa using hn)]
              exact ihf b he
            · rw [if_neg hn] at he
              rw [if_pos hn]
              split at he
              · rename_i a c ha hc
                obtain ⟨a', ha1, ha2⟩ := partB_sound T ha hlx w
                obtain ⟨c', hc1, hc2⟩ := partB_sound T hc hly w
                split at he
                · rename_i hr
                  have := ih f.type a c a' c' true w hr ha2 hc2
                  simp only [Sem.run_bind, ha1, hc1, this, Result.andThen_ok, Bool.not_true, Bool.false_eq_true, if_false]
                  exact ihf b he
                · rename_i hr
                  have := ih f.type a c a' c' false w hr ha2 hc2
                  simp at he; subst he
                  simp only [Sem.run_bind, ha1, hc1, this, Result.andThen_ok, Bool.not_false, if_true, Sem.run_pure]
                · cases he
              · cases he
      · cases he

theorem retV_run {s : Sem Value} {v : Value} (h : retV s = some v) (w : World) : s.run P w = .ok v w := by
  cases s <;> simp [retV] at h
  subst h; rfl

theorem unB_sound {op : UnOp} {v v' u : Value} (hu : unB op v = some u) (hv : VR ρ v v') (w : World) : (Op.unary op v').run P w = .ok u w := by
  cases hv <;> simp only [unB] at hu <;> first
    | exact retV_run hu w
    | (simp at hu; done)
theorem unary_plain {op : UnOp} {v u : Value} (hu : unB op v = some u) : plainCell u = true := by
  cases v <;> simp only [unB] at hu <;> first
    | (cases op <;> simp [Op.unary, Op.intArith, Op.intBits, retV, stuck, pure] at hu <;> subst hu <;> rfl)
    | (simp at hu; done)

theorem eqGuard_ok {op : BinOp} {t : TypeId} {ox oy : Operand} {x y : Value} (hn : ¬ (x = .nilIface ∧ y = .nilIface) ∨ (isConst' ox || isConst' oy) = true)
    (ha : ∀ xs ys, x = .agg xs → y = .agg ys → P.eqGuardType P.depth t = false) (w : World) : (eqGuard op t ox oy x y).run P w = .ok () w := by
  unfold eqGuard
  cases op <;> first
    | rfl
    | skip
  all_goals
    simp only [Bool.not_true, Bool.false_eq_true, if_false]
    split
    · rcases hn with h | h
      · exact absurd ⟨rfl, rfl⟩ h
      · cases ox <;> cases oy <;> first
          | rfl
          | (simp [isConst'] at h; done)
    · rename_i xs ys
      simp [ha xs ys rfl rfl]
    · rfl

theorem intOp_plain {op : BinOp} {t : TypeId} {k k' : IntKind} {a b : Int} {u : Value} (h : retV (binOp op t (.int k a) (.int k' b)) = some u) : plainCell u = true := by
  cases op <;> simp only [binOp, Op.shift, Op.intArith, Op.intDiv, Op.intBits, Op.intCmp, runtimePanic] at h <;> (repeat' split at h) <;>
    first
      | (simp [retV, stuck, runtimePanic, program, bind, Sem.bind] at h; done)
      | (simp [retV, pure] at h; subst h; rfl)
      | skip
theorem strOp_plain {op : BinOp} {t : TypeId} {a b : ByteArray} {u : Value} (h : retV (binOp op t (.string a) (.string b)) = some u) : plainCell u = true := by
  cases op <;> simp only [binOp, Op.stringOp] at h <;> (repeat' split at h) <;>
    first
      | (simp [retV, stuck, unsupported] at h; done)
      | (simp [retV, pure] at h; subst h; rfl)
      | skip

theorem eql_run {t : TypeId} {x y : Value} {b : Bool} (he : (Op.equalIn Op.maxDepth t x y).run P w = .ok b w)
    (hnt : ∀ k k' a b', ¬ (x = .int k a ∧ y = .int k' b')) (hns : ∀ a b', ¬ (x = .string a ∧ y = .string b'))
    (hnf : ∀ k a, x ≠ .float k a) (hnc : ∀ k a b', x ≠ .complex k a b') : (binOp .eql t x y).run P w = .ok (.bool b) w ∧ (binOp .neq t x y).run P w = .ok (.bool (!b)) w := by
  have e1 : (binOp .eql t x y) = (do pure (.bool (← Op.equal t x y)) : Sem Value) := by
    unfold binOp
    split <;> first
      | rfl
      | exact absurd ⟨rfl, rfl⟩ (hnt _ _ _ _)
      | exact absurd ⟨rfl, rfl⟩ (hns _ _)
      | exact absurd rfl (hnf _ _)
      | exact absurd rfl (hnc _ _ _)
      | simp_all
  have e2 : (binOp .neq t x y) = (do pure (.bool (!(← Op.equal t x y))) : Sem Value) := by
    unfold binOp
    split <;> first
      | rfl
      | exact absurd ⟨rfl, rfl⟩ (hnt _ _ _ _)
      | exact absurd ⟨rfl, rfl⟩ (hns _ _)
      | exact absurd rfl (hnf _ _)
      | exact absurd rfl (hnc _ _ _)
      | simp_all
  rw [e1, e2]
  simp [Op.equal, he]

theorem eqB_agg (T : TabOk P τ) {t : TypeId} {xs ys : Array Value} {b : Bool} (he : eqB τ Op.maxDepth t (.agg xs) (.agg ys) = some b) : P.eqGuardType P.depth t = false := by
  unfold Op.maxDepth at he
  rw [show (10000 : Nat) = 9999 + 1 from rfl] at he
  rw [eqB] at he
  cases hd : τ.ds.get t with
  | none => rw [hd] at he; cases he
  | some td =>
    rw [hd] at he
    cases td with
    | struct fields =>
      cases hq : τ.eqOk t with
      | false => simp [hq] at he
      | true => exact (T.eq t hq).2
    | _ => cases he
theorem eqB_float {t : TypeId} {k : FloatKind} {a : Nat} {y : Value} {b : Bool} (he : eqB τ Op.maxDepth t (.float k a) y = some b) : False := by
  unfold Op.maxDepth at he
  rw [show (10000 : Nat) = 9999 + 1 from rfl, eqB] at he
  cases hd : τ.ds.get t with
  | none => rw [hd] at he; cases he
  | some td => rw [hd] at he; cases td <;> cases he
theorem eqB_complex {t : TypeId} {k : FloatKind} {a c : Nat} {y : Value} {b : Bool} (he : eqB τ Op.maxDepth t (.complex k a c) y = some b) : False := by
  unfold Op.maxDepth at he
  rw [show (10000 : Nat) = 9999 + 1 from rfl, eqB] at he
  cases hd : τ.ds.get t with
  | none => rw [hd] at he; cases he
  | some td => rw [hd] at he; cases td <;> cases he
theorem guard_bind {op : BinOp} {t : TypeId} {ox oy : Operand} {x y u : Value} (hg : (eqGuard op t ox oy x y).run P w = .ok () w) (hb : (binOp op t x y).run P w = .ok u w) :
    (do eqGuard op t ox oy x y; binOp op t x y : Sem Value).run P w = .ok u w := by
  rw [Sem.run_bind, hg]; exact hb
theorem nilIface_eq' (d : Nat) {t : TypeId} {ms : Array (String × TypeId)} (hd : P.underlying t = some (.interface ms)) : (Op.equalIn (d + 1) t .nilIface .nilIface).run P w = .ok true w := by
  simp only [Op.equalIn, Sem.run_bind, run_underlying hd, Result.andThen_ok, Sem.run_pure]
theorem nilIface_eq {t : TypeId} {ms : Array (String × TypeId)} (hd : P.underlying t = some (.interface ms)) : (Op.equalIn Op.maxDepth t .nilIface .nilIface).run P w = .ok true w :=
  nilIface_eq' 9999 hd
theorem ptr_eq' (d : Nat) {t e : TypeId} {i : TypeInfo} (hd : P.underlying t = some (.pointer e)) (hi : P.info? e = some i) (hsz : ¬ i.size = 0) (b o1 o2 : Nat) :
    (Op.equalIn (d + 1) t (.pointer (some ⟨b, o1, none⟩)) (.pointer (some ⟨b, o2, none⟩))).run P w = .ok (Nat.beq o1 o2) w := by
  simp only [Op.equalIn, Sem.run_bind, run_underlying hd, run_sizeOf hi, Result.andThen_ok, ne_eq, hsz, not_false_eq_true, if_true, sameAddr, beq_self_eq_true, Sem.run_pure]
  congr 1
  rw [Bool.eq_iff_iff]
  simp

theorem binB_sound (T : TabOk P τ) {op : BinOp} {t : TypeId} {ox oy : Operand} {x y x' y' u : Value} (hb : binB τ op t ox oy x y = some u) (hx : VR ρ x x') (hy : VR ρ y y') (w : World) :
    (do eqGuard op t ox oy x' y'; binOp op t x' y' : Sem Value).run P w = .ok u w ∧ plainCell u = true := by
  unfold binB at hb
  split at hb
  · cases hx; cases hy
    have hb := binI_sound (t := t) hb
    exact ⟨guard_bind (eqGuard_ok (.inl (by simp)) (by simp) w) (retV_run hb w), intOp_plain hb⟩
  · cases hx; cases hy
    have hb := binS_sound (t := t) hb
    exact ⟨guard_bind (eqGuard_ok (.inl (by simp)) (by simp) w) (retV_run hb w), strOp_plain hb⟩
  · cases hx; cases hy
    cases hc : isConst' ox || isConst' oy with
    | false => simp [hc] at hb
    | true =>
      simp only [hc, cond_true] at hb
      split at hb
      · rename_i ms hd
        simp at hb; subst hb
        exact ⟨guard_bind (eqGuard_ok (.inr hc) (by simp) w) (eql_run (nilIface_eq (T.ds _ _ hd)) (by simp) (by simp) (by simp) (by simp)).1, rfl⟩
      · rename_i ms hd
        simp at hb; subst hb
        exact ⟨guard_bind (eqGuard_ok (.inr hc) (by simp) w) (eql_run (nilIface_eq (T.ds _ _ hd)) (by simp) (by simp) (by simp) (by simp)).2, rfl⟩
      · cases hb
  · rename_i a b
    have key : ∀ {e : TypeId} {i : TypeInfo}, τ.ds.get t = some (.pointer e) → τ.inf.get e = some i → (Nat.beq a.block b.block && !(Nat.beq i.size 0)) = true →
        (Op.equalIn Op.maxDepth t x' y').run P w = .ok (Nat.beq a.off b.off) w ∧ x' ≠ .nilIface ∧ (∀ k n, x' ≠ .int k n) ∧ (∀ s, x' ≠ .string s) ∧ (∀ k n, x' ≠ .float k n) ∧ (∀ k n m, x' ≠ .complex k n m) ∧ (∀ c, x' ≠ .agg c) := by
      intro e i hd hi hc
      cases hx with | @ptr id off pl e1 =>
      cases hy with | @ptr id2 off2 pl2 e2 =>
      simp only [Bool.and_eq_true, Bool.not_eq_true'] at hc
      have hid : id = id2 := Nat.eq_of_beq_eq_true hc.1
      subst hid
      rw [e1] at e2; cases e2
      have hsz : ¬ i.size = 0 := fun hh => by rw [hh] at hc; simp at hc
      refine ⟨?_, by simp, by simp, by simp, by simp, by simp, by simp⟩
      have := ptr_eq' (P := P) (w := w) 9999 (T.ds _ _ hd) (T.inf _ _ hi) hsz pl.b (pl.o + off) (pl.o + off2)
      rw [show Nat.beq (pl.o + off) (pl.o + off2) = Nat.beq off off2 from by rw [Bool.eq_iff_iff]; simp] at this
      exact this
    split at hb
    · rename_i e _ hd
      split at hb
      · rename_i i hi
        cases hc : Nat.beq a.block b.block && !(Nat.beq i.size 0) with
        | false => simp [hc] at hb
        | true =>
          simp only [hc, cond_true, Option.some.injEq] at hb; subst hb
          obtain ⟨k1, k2, k3, k4, k5, k6, k7⟩ := key hd hi hc
          exact ⟨guard_bind (eqGuard_ok (.inl fun h => k2 h.1) (fun xs _ h _ => absurd h (k7 xs)) w) (eql_run k1 (fun k _ a _ h => k3 k a h.1) (fun a _ h => k4 a h.1) k5 k6).1, rfl⟩
      · cases hb
    · rename_i e _ hd
      split at hb
      · rename_i i hi
        cases hc : Nat.beq a.block b.block && !(Nat.beq i.size 0) with
        | false => simp [hc] at hb
        | true =>
          simp only [hc, cond_true, Option.some.injEq] at hb; subst hb
          obtain ⟨k1, k2, k3, k4, k5, k6, k7⟩ := key hd hi hc
          exact ⟨guard_bind (eqGuard_ok (.inl fun h => k2 h.1) (fun xs _ h _ => absurd h (k7 xs)) w) (eql_run k1 (fun k _ a _ h => k3 k a h.1) (fun a _ h => k4 a h.1) k5 k6).2, rfl⟩
      · cases hb
    · cases hb
  · rename_i hni hns hnn hnp
    have guard : ∀ b, eqB τ Op.maxDepth t x y = some b → (Op.equalIn Op.maxDepth t x' y').run P w = .ok b w ∧ (eqGuard op t ox oy x' y').run P w = .ok () w ∧
        (∀ k k' a b', ¬ (x' = .int k a ∧ y' = .int k' b')) ∧ (∀ a b', ¬ (x' = .string a ∧ y' = .string b')) ∧ (∀ k a, x' ≠ .float k a) ∧ (∀ k a b', x' ≠ .complex k a b') := by
      intro b he
      refine ⟨eqB_sound T _ t x y x' y' b w he hx hy, eqGuard_ok (.inl fun hh => ?_) (fun xs ys hh1 hh2 => ?_) w, fun k k' a b' hh => ?_, fun a b' hh => ?_, fun k a hh => ?_, fun k a b' hh => ?_⟩
      · obtain ⟨rfl, rfl⟩ := hh; cases hx; cases hy; exact hnn rfl rfl
      · subst hh1; subst hh2
        cases hx; cases hy
        exact eqB_agg T he
      · obtain ⟨rfl, rfl⟩ := hh; cases hx; cases hy; exact hni _ _ _ _ rfl rfl
      · obtain ⟨rfl, rfl⟩ := hh; cases hx; cases hy; exact hns _ _ rfl rfl
      · subst hh; cases hx; exact eqB_float he
      · subst hh; cases hx; exact eqB_complex he
    split at hb
    · split at hb
      · rename_i b he
        simp at hb; subst hb
        obtain ⟨k1, k2, k3, k4, k5, k6⟩ := guard b he
        exact ⟨guard_bind k2 (eql_run k1 k3 k4 k5 k6).1, rfl⟩
      · cases hb
    · split at hb
      · rename_i b he
        simp at hb; subst hb
        obtain ⟨k1, k2, k3, k4, k5, k6⟩ := guard b he
        exact ⟨guard_bind k2 (eql_run k1 k3 k4 k5 k6).2, rfl⟩
      · cases hb
    · cases hb
end
end Go.Ev
end

section
/-
  Addresses, parts, slices of values.
-/
namespace Go.Ev
section
variable {P : Program} {τ : Tab} {ρ : Ren} {h : Hp} {w : World}

theorem asIdx_eq {v : Value} {n : Nat} (h : asIdx v = some n) : ∃ k, v = .int k (Int.ofNat n) := by
  unfold asIdx at h
  split at h
  · rename_i k m; simp at h; subst h; exact ⟨k, rfl⟩
  · cases h
theorem asIdx_VR {v v' : Value} {n : Nat} (h : asIdx v = some n) (hv : VR ρ v v') : ∃ k, v' = .int k (n : Int) := by
  obtain ⟨k, rfl⟩ := asIdx_eq h
  cases hv; exact ⟨k, rfl⟩

theorem indexAddr_sound (T : TabOk P τ) {t : TypeId} {x ix x' ix' u : Value} (hu : indexAddrB τ t x ix = some u) (hx : VR ρ x x') (hix : VR ρ ix ix') (w : World) :
    ∃ u', (Instr.indexAt t x' ix').run P w = .ok u' w ∧ VR ρ u u' := by
  unfold indexAddrB at hu
  split at hu
  · rename_i _ _ _ e a len cap i hd hi
    split at hu
    · rename_i inf hinf
      cases hc : Nat.blt i len with
      | false => simp [hc] at hu
      | true =>
        simp only [hc, cond_true, Option.some.injEq] at hu
        subst hu
        have hlt : i < len := by simpa [Nat.blt_eq] using hc
        obtain ⟨k, rfl⟩ := asIdx_VR hi hix
        cases hx with | @slice id off sp _ _ pl o' e1 e2 =>
        refine ⟨.pointer (some ⟨pl.b, pl.o + (off + i * inf.size), none⟩), ?_, .ptr e1⟩
        have ho := e2 (by omega)
        simp [Instr.indexAt, asIntOf, run_underlying (T.ds _ _ hd), run_sizeOf (T.inf _ _ hinf), hlt, addr_add, ho, Nat.add_assoc]
    · cases hu
  · rename_i _ _ _ len e id off i hd hi
    split at hu
    · rename_i inf hinf
      cases hc : Nat.blt i len with
      | false => simp [hc] at hu
      | true =>
        simp only [hc, cond_true, Option.some.injEq] at hu
        subst hu
        have hlt : i < len := by simpa [Nat.blt_eq] using hc
        obtain ⟨k, rfl⟩ := asIdx_VR hi hix
        cases hx with | @ptr _ _ pl e1 =>
        refine ⟨.pointer (some ⟨pl.b, pl.o + (off + i * inf.size), none⟩), ?_, .ptr e1⟩
        simp [Instr.indexAt, Instr.sureAddr, asIntOf, run_underlying (T.ds _ _ hd), run_sizeOf (T.inf _ _ hinf), hlt, addr_add, Nat.add_assoc]
    · cases hu
  · cases hu

theorem index_sound (T : TabOk P τ) {t : TypeId} {x ix x' ix' u : Value} (hu : indexB τ t x ix = some u) (hx : VR ρ x x') (hix : VR ρ ix ix') (w : World) :
    ∃ u', (Instr.index t x' ix').run P w = .ok u' w ∧ VR ρ u u' := by
  unfold indexB at hu
  split at hu
  · rename_i _ _ _ len e cs i hd hi
    split at hu
    · rename_i inf hinf
      cases hc : Nat.blt i len with
      | false => simp [hc] at hu
      | true =>
        simp only [hc, cond_true] at hu
        have hlt : i < len := by simpa [Nat.blt_eq] using hc
        obtain ⟨k, rfl⟩ := asIdx_VR hi hix
        cases hx with | agg hl =>
        obtain ⟨u', h1, h2⟩ := partB_sound T hu hl w
        refine ⟨u', ?_, h2⟩
        simp [Instr.index, asIntOf, run_underlying (T.ds _ _ hd), run_sizeOf (T.inf _ _ hinf), hlt, h1]
    · cases hu
  · rename_i _ _ _ s i hd hi
    split at hu
    · rename_i b hb
      simp at hu; subst hu
      obtain ⟨k, rfl⟩ := asIdx_VR hi hix
      cases hx
      refine ⟨.int .u8 b.toNat, ?_, .int _ _⟩
      have hb' : s[i]? = some b := by
        have hlt : i < s.data.toList.length := (List.getElem?_eq_some_iff.1 hb).1
        have hlt' : i < s.size := hlt
        rw [getElem?_pos s i hlt']
        have := (List.getElem?_eq_some_iff.1 hb).2
        exact congrArg some this
      simp [Instr.index, asIntOf, run_underlying (T.ds _ _ hd), hb']
    · cases hu
  · cases hu

theorem fieldAddr_sound (T : TabOk P τ) {s : TypeId} {x x' u : Value} {f : Nat} (hu : fieldAddrB τ s x f = some u) (hx : VR ρ x x') (w : World) :
    ∃ u', (Instr.fieldAt s x' f).run P w = .ok u' w ∧ VR ρ u u' := by
  unfold fieldAddrB at hu
  split at hu
  · rename_i _ _ fields id off hd
    split at hu
    · rename_i fl hf
      split at hu
      · rename_i i hi
        cases hc : Nat.beq i.size 0 with
        | true => simp [hc] at hu
        | false =>
          simp only [hc, cond_false, Option.some.injEq] at hu
          subst hu
          have hne : ¬ i.size = 0 := fun h => by rw [h] at hc; simp at hc
          cases hx with | @ptr _ _ pl e1 =>
          refine ⟨.pointer (some ⟨pl.b, pl.o + (off + fl.offset), none⟩), ?_, .ptr e1⟩
          have hf' : fields[f]? = some fl := by simpa using hf
          simp [Instr.fieldAt, Instr.sureAddr, run_underlying (T.ds _ _ hd), hf', fieldPlace, run_sizeOf (T.inf _ _ hi), hne, addr_add, Nat.add_assoc]
      · cases hu
    · cases hu
  · cases hu

theorem field_sound (T : TabOk P τ) {t : TypeId} {x x' u : Value} {f : Nat} (hu : fieldB τ t x f = some u) (hx : VR ρ x x') (w : World) :
    ∃ u', (Instr.field t x' f).run P w = .ok u' w ∧ VR ρ u u' := by
  unfold fieldB at hu
  split at hu
  · rename_i _ _ fields cs hd
    split at hu
    · rename_i fl hf
      cases hx with | agg hl =>
      obtain ⟨u', h1, h2⟩ := partB_sound T hu hl w
      have hf' : fields[f]? = some fl := by simpa using hf
      exact ⟨u', by simp [Instr.field, run_underlying (T.ds _ _ hd), hf', asAgg, h1], h2⟩
    · cases hu
  · cases hu

/-- An operand that may be lacking. -/
inductive OVR (ρ : Ren) : Option Value → Option Value → Prop
  | none : OVR ρ none none
  | some {v v'} : VR ρ v v' → OVR ρ (some v) (some v')

theorem bnd_run {d : Nat} {o o' : Option Value} {n y : Nat} (hb : bnd d o = some n) (ho : OVR ρ o o') (hle : n ≤ y) (code : BoundsCode) :
    (match o' with | some v => Instr.sliceBound v y code | none => pure d : Sem Nat).run P w = .ok n w := by
  cases ho with
  | none => simp [bnd] at hb; subst hb; rfl
  | some hv =>
    obtain ⟨k, rfl⟩ := asIdx_VR hb hv
    simp [Instr.sliceBound, asIntOf]; omega

theorem bounds_run {isSlice : Bool} {len cap : Nat} {lo lo' hi hi' : Option Value} {l hh : Nat} (h1 : bnd 0 lo = some l) (h2 : bnd len hi = some hh) (r1 : OVR ρ lo lo') (r2 : OVR ρ hi hi') (b1 : l ≤ hh) (b2 : hh ≤ cap) (hd : hi = none → len ≤ cap) (w : World) :
    (Instr.sliceBounds isSlice len cap lo' hi' none).run P w = .ok (l, hh, cap) w := by
  cases r1 with
  | none =>
    simp [bnd] at h1; subst h1
    cases r2 with
    | none => simp [bnd] at h2; subst h2; simp [Instr.sliceBounds]
    | some hv =>
      obtain ⟨k, rfl⟩ := asIdx_VR h2 hv
      simp [Instr.sliceBounds, Instr.sliceBound, asIntOf, b2]
  | some hv1 =>
    obtain ⟨k1, rfl⟩ := asIdx_VR h1 hv1
    cases r2 with
    | none => simp [bnd] at h2; subst h2; simp [Instr.sliceBounds, Instr.sliceBound, asIntOf, b1]
    | some hv =>
      obtain ⟨k, rfl⟩ := asIdx_VR h2 hv
      simp [Instr.sliceBounds, Instr.sliceBound, asIntOf, b1, b2]
theorem bounds3_run {len cap : Nat} {lo lo' : Option Value} {hv hv' mv mv' : Value} {l hh m : Nat} (h1 : bnd 0 lo = some l) (h2 : asIdx hv = some hh) (h3 : asIdx mv = some m) (r1 : OVR ρ lo lo') (r2 : VR ρ hv hv') (r3 : VR ρ mv mv')
    (b1 : l ≤ hh) (b2 : hh ≤ m) (b3 : m ≤ cap) (w : World) : (Instr.sliceBounds true len cap lo' (some hv') (some mv')).run P w = .ok (l, hh, m) w := by
  obtain ⟨k2, rfl⟩ := asIdx_VR h2 r2
  obtain ⟨k3, rfl⟩ := asIdx_VR h3 r3
  cases r1 with
  | none => simp [bnd] at h1; subst h1; simp [Instr.sliceBounds, Instr.sliceBound, asIntOf, b2, b3]
  | some hv1 =>
    obtain ⟨k1, rfl⟩ := asIdx_VR h1 hv1
    simp [Instr.sliceBounds, Instr.sliceBound, asIntOf, b1, b2, b3]

theorem bifO {α : Type} {c : Bool} {e : Option α} {u : α} (h : (bif c then e else none) = some u) : c = true ∧ e = some u := by
  cases c with
  | true => exact ⟨rfl, h⟩
  | false => cases h
theorem bifN {α : Type} {c : Bool} {e : Option α} {u : α} (h : (bif c then none else e) = some u) : c = false ∧ e = some u := by
  cases c with
  | false => exact ⟨rfl, h⟩
  | true => cases h
theorem and2 {a b : Bool} (h : (a && b) = true) : a = true ∧ b = true := by simpa using h

theorem slice_sound (T : TabOk P τ) {t : TypeId} {x x' u : Value} {lo hi mx lo' hi' mx' : Option Value} (hu : sliceB τ t x lo hi mx = some u) (hx : VR ρ x x') (r1 : OVR ρ lo lo') (r2 : OVR ρ hi hi') (r3 : OVR ρ mx mx') (w : World) :
    ∃ u', (Instr.sliceAt t x' lo' hi' mx').run P w = .ok u' w ∧ VR ρ u u' := by
  unfold sliceB at hu
  split at hu
  · cases hu
  rename_i td hd
  split at hu
  · -- a string
    split at hu
    · rename_i l hh h1 h2
      obtain ⟨hc, hu⟩ := bifO hu
      obtain ⟨c1, c2⟩ := and2 hc
      simp at hu; subst hu
      cases hx; cases r3
      refine ⟨_, ?_, .string _⟩
      simp [Instr.sliceAt, run_underlying (T.ds _ _ hd), Instr.slice, bounds_run h1 h2 r1 r2 (Nat.le_of_ble_eq_true c1) (Nat.le_of_ble_eq_true c2) (fun _ => Nat.le_refl _), extract_mkS]
    · cases hu
  · -- a slice, two bounds
    rename_i e a len cap
    split at hu
    · rename_i l hh i h1 h2 hi'
      obtain ⟨hc, hu⟩ := bifO hu
      obtain ⟨c1, c2⟩ := and2 hc
      have c1 := Nat.le_of_ble_eq_true c1
      have c2 := Nat.le_of_ble_eq_true c2
      simp at hu; subst hu
      cases hx with | @slice id off sp _ _ pl o' e1 e2 =>
      cases r3
      have hb := bounds_run (P := P) (isSlice := true) (len := len) (cap := cap + slk sp pl) h1 h2 r1 r2 c1 (by omega) (fun e => by subst e; simp [bnd] at h2; omega) w
      have e3 : cap + slk sp pl - l = (cap - l) + slk sp pl := by omega
      by_cases hz : cap + slk sp pl = l
      · refine ⟨.slice (some ⟨pl.b, o', none⟩) (hh - l) (cap + slk sp pl - l), ?_, ?_⟩
        · simp only [Instr.sliceAt, Sem.run_bind, run_underlying (T.ds _ _ hd), Instr.slice, hb, run_sizeOf (T.inf _ _ hi'), Result.andThen_ok, Sem.run_pure]
          rw [if_pos hz]
        · rw [e3]; exact VR.slice (off := off + l * i.size) (sp := sp) e1 (fun h => by omega)
      · refine ⟨.slice (some ⟨pl.b, o' + l * i.size, none⟩) (hh - l) (cap + slk sp pl - l), ?_, ?_⟩
        · simp only [Instr.sliceAt, Sem.run_bind, run_underlying (T.ds _ _ hd), Instr.slice, hb, run_sizeOf (T.inf _ _ hi'), Result.andThen_ok, Sem.run_pure]
          rw [if_neg hz]; simp [addr_add]
        · rw [e3]; exact VR.slice (off := off + l * i.size) (sp := sp) e1 (fun h => by have := e2 (by omega); omega)
    · cases hu
  · -- a slice, three bounds
    rename_i e a len cap m'
    split at hu
    · rename_i l hv m i h1 h3 hi'
      split at hu
      · rename_i hh h4
        obtain ⟨hc, hu⟩ := bifO hu
        obtain ⟨hc, c3⟩ := and2 hc
        obtain ⟨c1, c2⟩ := and2 hc
        have c1 := Nat.le_of_ble_eq_true c1
        have c2 := Nat.le_of_ble_eq_true c2
        have c3 := Nat.le_of_ble_eq_true c3
        simp at hu; subst hu
        cases hx with | @slice id off sp _ _ pl o' e1 e2 =>
        cases r3 with | some rm =>
        cases r2 with | some rh =>
        have hb := bounds3_run (P := P) (len := len) (cap := cap + slk sp pl) h1 h4 h3 r1 rh rm c1 c2 (by omega) w
        by_cases hz : m = l
        · refine ⟨.slice (some ⟨pl.b, o', none⟩) (hh - l) (m - l), ?_, ?_⟩
          · simp only [Instr.sliceAt, Sem.run_bind, run_underlying (T.ds _ _ hd), Instr.slice, hb, run_sizeOf (T.inf _ _ hi'), Result.andThen_ok, Sem.run_pure]
            rw [if_pos hz]
          · have := VR.slice (ρ := ρ) (id := id) (off := off + l * i.size) (sp := some 0) (len := hh - l) (cap := m - l) (o' := o') e1 (fun h => by simp [slk] at h; omega)
            simpa [slk] using this
        · refine ⟨.slice (some ⟨pl.b, o' + l * i.size, none⟩) (hh - l) (m - l), ?_, ?_⟩
          · simp only [Instr.sliceAt, Sem.run_bind, run_underlying (T.ds _ _ hd), Instr.slice, hb, run_sizeOf (T.inf _ _ hi'), Result.andThen_ok, Sem.run_pure]
            rw [if_neg hz]; simp [addr_add]
          · have := VR.slice (ρ := ρ) (id := id) (off := off + l * i.size) (sp := some 0) (len := hh - l) (cap := m - l) (o' := o' + l * i.size) e1 (fun h => by have := e2 (by omega); omega)
            simpa [slk] using this
      · cases hu
    · cases hu
  · -- a nil slice
    split at hu
    · rename_i i h1 h2 hi'
      simp at hu; subst hu
      cases hx; cases r3
      refine ⟨.slice none 0 0, ?_, .nilslice 0 0⟩
      simp [Instr.sliceAt, Sem.run_bind, run_underlying (T.ds _ _ hd), Instr.slice, bounds_run (P := P) h1 h2 r1 r2 (Nat.le_refl _) (Nat.le_refl _) (fun _ => Nat.le_refl _), Result.andThen_ok, run_sizeOf (T.inf _ _ hi')]
    · cases hu
  · -- a nil slice, three bounds
    rename_i e m'
    split at hu
    · rename_i hv i h1 h3 hi'
      split at hu
      · rename_i h2
        simp at hu; subst hu
        cases hx; cases r3 with | some rm =>
        cases r2 with | some rh =>
        refine ⟨.slice none 0 0, ?_, .nilslice 0 0⟩
        simp [Instr.sliceAt, Sem.run_bind, run_underlying (T.ds _ _ hd), Instr.slice, bounds3_run (P := P) h1 h2 h3 r1 rh rm (Nat.le_refl _) (Nat.le_refl _) (Nat.le_refl _), Result.andThen_ok, run_sizeOf (T.inf _ _ hi')]
      · cases hu
    · cases hu
  · -- an array
    rename_i n e id off
    split at hu
    · rename_i l hh i h1 h2 hi'
      obtain ⟨hc, hu⟩ := bifO hu
      obtain ⟨c1, c2⟩ := and2 hc
      have c1 := Nat.le_of_ble_eq_true c1
      have c2 := Nat.le_of_ble_eq_true c2
      simp at hu; subst hu
      cases hx with | @ptr _ _ pl e1 =>
      cases r3
      have hb := bounds_run (P := P) (isSlice := false) (len := n) (cap := n) h1 h2 r1 r2 c1 c2 (fun _ => Nat.le_refl _) w
      by_cases hz : n = l
      · refine ⟨.slice (some ⟨pl.b, pl.o + off, none⟩) (hh - l) (n - l), ?_, ?_⟩
        · simp only [Instr.sliceAt, Instr.sureAddr, Sem.run_bind, run_underlying (T.ds _ _ hd), hb, run_sizeOf (T.inf _ _ hi'), Result.andThen_ok, Sem.run_pure]
          rw [if_pos hz]
        · have := VR.slice (ρ := ρ) (id := id) (off := off + l * i.size) (sp := some 0) (len := hh - l) (cap := n - l) (o' := pl.o + off) e1 (fun h => by simp [slk] at h; omega)
          simpa [slk] using this
      · refine ⟨.slice (some ⟨pl.b, pl.o + off + l * i.size, none⟩) (hh - l) (n - l), ?_, ?_⟩
        · simp only [Instr.sliceAt, Instr.sureAddr, Sem.run_bind, run_underlying (T.ds _ _ hd), hb, run_sizeOf (T.inf _ _ hi'), Result.andThen_ok, Sem.run_pure]
          rw [if_neg hz]; simp [addr_add]
        · have := VR.slice (ρ := ρ) (id := id) (off := off + l * i.size) (sp := some 0) (len := hh - l) (cap := n - l) (o' := pl.o + off + l * i.size) e1 (fun h => by omega)
          simpa [slk] using this
    · cases hu
  · cases hu
end
end Go.Ev
end
