/-
  The evaluator of closed runs (a part): EvS11, EvS12, EvS13.
-/
import Derived.Test.YtehhkecoedbjoaaGreatDoorEv5
import Derived.Laws.Tables
set_option linter.unusedVariables false
set_option linter.unusedSimpArgs false
set_option linter.unusedSectionVars false
section
/-
  Iterators, composite literals, interfaces.
-/
namespace Go.Ev
section
variable {P : Program} {τ : Tab} {ρ : Ren} {h : Hp} {w : World}

theorem obj_new (hk : Hkt P τ ρ h w) {hb : HB} {o : Obj} (hBR : ∀ ρ', ρ.le ρ' → BR P ρ' ⟨w.heap.size, 0, 0⟩ (w.alloc o) hb) {s : Sem Next}
    (hs : s.run P w = .ok (.value (.pointer (some ⟨w.heap.size, 0, none⟩))) (w.alloc o)) : Goes P τ ρ h w s (ptr h.nx 0) (h.new hb) := by
  obtain ⟨k1, k2⟩ := hk.alloc o hb 0 (hBR _ (Ren.le_upd (hk.1.fresh h.nx (Nat.le_refl _)) _))
  refine ⟨_, _, _, _, hs, .inl rfl, ?_, k1, k2, WS.le_refl _⟩
  have := VR.ptr (ρ := ρ.upd h.nx ⟨w.heap.size, 0, 0⟩) (id := h.nx) (off := 0) (Ren.upd_same _ _)
  simpa [ptr] using this

theorem range_sound (T : TabOk P τ) (hk : Hkt P τ ρ h w) {t : TypeId} {x x' u : Value} {h' : Hp} (hu : rangeB τ t x h = some (u, h')) (hx : VR ρ x x') :
    Goes P τ ρ h w (do pure (.value (← Instr.range t x'))) u h' := by
  unfold rangeB at hu
  split at hu
  · cases hu
  rename_i td hd
  split at hu
  · rename_i s
    simp only [Option.some.injEq, Prod.mk.injEq] at hu; obtain ⟨rfl, rfl⟩ := hu
    cases hx
    exact obj_new hk (hb := .str s 0) (o := .stringIter s 0) (fun ρ' _ => ⟨getElem?_alloc_new w _, rfl⟩) (vrun (by simp [Instr.range, run_underlying (T.ds _ _ hd)]))
  · simp only [Option.some.injEq, Prod.mk.injEq] at hu; obtain ⟨rfl, rfl⟩ := hu
    cases hx
    exact obj_new hk (hb := .miter none 0 [] 0) (o := .mapIter none 0 #[] 0) (fun ρ' _ => ⟨getElem?_alloc_new w _, rfl⟩) (vrun (by simp [Instr.range, run_underlying (T.ds _ _ hd)]))
  · rename_i m
    split at hu
    · rename_i es ck eH
      simp only [Option.some.injEq, Prod.mk.injEq] at hu; obtain ⟨rfl, rfl⟩ := hu
      cases hx with | @map _ pl e1 =>
      obtain ⟨es', g1, g2⟩ := hk.1.hr _ _ _ e1 eH
      exact obj_new hk (hb := .miter (some m) ck [] ck) (o := .mapIter (some pl.b) ck #[] ck) (fun ρ' hle => ⟨pl, hle _ _ e1, getElem?_alloc_new w _, rfl⟩) (vrun (by simp [Instr.range, run_underlying (T.ds _ _ hd), run_getObj_map g1]))
    · cases hu
  · cases hu

theorem run_getObj_str {r : Nat} {s : ByteArray} {pos : Nat} (hr : w.heap[r]? = some (.stringIter s pos)) : (getObj r).run P w = .ok (.stringIter s pos) w := by
  simp [getObj, Sem.run, hr]
theorem run_getObj_miter {r : Nat} {m : Option Nat} {since last : Nat} {seen : Array Nat} (hr : w.heap[r]? = some (.mapIter m since seen last)) : (getObj r).run P w = .ok (.mapIter m since seen last) w := by
  simp [getObj, Sem.run, hr]

theorem ER.filter_seen {es es' : List MapEntry} (he : ER ρ es es') (seen : List Nat) : ER ρ (es.filter fun e => !seen.contains e.born) (es'.filter fun e => !seen.contains e.born) := by
  induction he with
  | nil => exact .nil
  | cons a b c r ih =>
    simp only [List.filter_cons]
    rw [c]
    split
    · exact .cons a b c ih
    · exact ih
theorem ER.all_born {es es' : List MapEntry} (he : ER ρ es es') (p : Nat → Bool) : es.all (fun e => p e.born) = es'.all (fun e => p e.born) := by
  induction he with
  | nil => rfl
  | cons a b c r ih => simp only [List.all_cons, ih, c]

theorem next_sound (T : TabOk P τ) (hk : Hkt P τ ρ h w) {it it' : Value} {isStr : Bool} {l : List (Value × Hp)} (ty : TypeId) (hu : nextB it isStr h = some l) (hx : VR ρ it it') :
    ∃ v h', (v, h') ∈ l ∧ Goes P τ ρ h w (do pure (.value (← Instr.next it' isStr ty))) v h' := by
  unfold nextB at hu
  split at hu
  case h_2 => cases hu
  rename_i r
  cases hx with | @ptr _ _ pl e1 =>
  split at hu
  · -- a string
    rename_i s pos eH
    obtain ⟨g1, g2⟩ := hk.1.hr _ _ _ e1 eH
    rw [g2]
    cases hc : Nat.blt pos s.size with
    | true =>
      simp only [hc, cond_true, Option.some.injEq] at hu; subst hu
      have hc : pos < s.size := by simpa [Nat.blt_eq] using hc
      refine ⟨_, _, List.mem_singleton.2 rfl, ?_⟩
      have hlt := (Array.getElem?_eq_some_iff.1 g1).1
      rw [← decode_decL]
      obtain ⟨k1, k2⟩ := hk.write (w' := { w with heap := w.heap.setIfInBounds pl.b (.stringIter s (pos + (Utf8.decode s pos).2)) }) (hb' := .str s (pos + (Utf8.decode s pos).2)) e1 eH rfl (by simp)
        (fun b hb => by show (w.heap.setIfInBounds pl.b _)[b]? = _; rw [Array.getElem?_setIfInBounds_ne (Ne.symm hb)]) ⟨by simp [hlt], g2⟩ rfl rfl rfl
      refine Goes.made (vrun (v := .tuple #[.bool true, goInt pos, .int .i32 (Utf8.decode s pos).1]) ?_) (.tuple (.cons (.bool _) (.cons (.int _ _) (.cons (.int _ _) .nil)))) k1 k2 (h.low_le r).1
      have hso := setObj_run (P := P) (o' := .stringIter s (pos + (Utf8.decode s pos).2)) g1 (by simp)
      simp [Instr.next, run_getObj_str g1, hc, hso]
    | false =>
      simp only [hc, cond_false, Option.some.injEq] at hu; subst hu
      have hc : ¬ pos < s.size := by
        intro hh
        have : Nat.blt pos s.size = true := by simpa [Nat.blt_eq] using hh
        rw [this] at hc; cases hc
      refine ⟨_, _, List.mem_singleton.2 rfl, Goes.pure hk (vrun (v := .tuple #[.bool false]) ?_) (.tuple (.cons (.bool _) .nil))⟩
      simp [Instr.next, run_getObj_str g1, hc]
  · -- a nil map
    rename_i since seen last eH
    obtain ⟨g1, g2⟩ := hk.1.hr _ _ _ e1 eH
    rw [g2]
    simp only [Option.some.injEq] at hu; subst hu
    refine ⟨_, _, List.mem_singleton.2 rfl, Goes.pure hk (vrun (v := .tuple #[.bool false]) ?_) (.tuple (.cons (.bool _) .nil))⟩
    simp [Instr.next, run_getObj_miter g1]
  · -- a map
    rename_i m since seen last eH
    obtain ⟨plm, g0, g1, g2⟩ := hk.1.hr _ _ _ e1 eH
    rw [g2]
    split at hu
    case h_2 => cases hu
    rename_i es ck eHm
    obtain ⟨es', m1, m2⟩ := hk.1.hr _ _ _ g0 eHm
    replace hu := bifN hu; obtain ⟨hgone, hu⟩ := hu
    replace hu := bifO hu; obtain ⟨hold, hu⟩ := hu
    have hgone' : (!(⟨seen⟩ : Array Nat).isEmpty && !es'.isEmpty && es'.all (fun e : MapEntry => decide (e.born ≥ last))) = false := by
      have e2 : es'.isEmpty = es.isEmpty := by
        have := m2.length
        rw [Bool.eq_iff_iff]
        cases es with
        | nil => simp at this ⊢; exact Array.size_eq_zero_iff.1 this.symm
        | cons a l => simp at this ⊢; intro hh; rw [hh] at this; simp at this
      have e3 : es'.all (fun e : MapEntry => decide (e.born ≥ last)) = es.all (fun e => Nat.ble last e.born) := by
        rw [m2.all_born (fun b => Nat.ble last b), ← Array.all_toList]
        congr 1
        funext e
        rw [Bool.eq_iff_iff]; simp [Nat.ble_eq]
      have e4 : (⟨seen⟩ : Array Nat).isEmpty = seen.isEmpty := by cases seen <;> rfl
      rw [e2, e3, e4]; exact hgone
    have hold' : ∀ e ∈ es'.toList, e.born < since := by
      have := m2.all_born (fun b => Nat.blt b since)
      rw [this] at hold
      intro e he
      have := List.all_eq_true.1 hold e he
      simpa [Nat.blt_eq] using this
    have hleft := m2.filter_seen seen
    have hleftA : (es'.filter fun e => !(⟨seen⟩ : Array Nat).contains e.born) = ⟨es'.toList.filter fun e => !seen.contains e.born⟩ := by
      apply Array.ext'
      simp
    generalize hL : es'.toList.filter (fun e => !seen.contains e.born) = L' at hleft hleftA
    have hLold : ∀ e ∈ L', e.born < since := fun e he => hold' e (by rw [← hL] at he; exact (List.mem_filter.1 he).1)
    have hf1 : (⟨L'⟩ : Array MapEntry).filter (·.born < since) = ⟨L'⟩ := by
      apply Array.ext'
      simp only [Array.toList_filter]
      exact List.filter_eq_self.2 fun e he => by simpa using hLold e he
    have hf2 : (⟨L'⟩ : Array MapEntry).filter (·.born ≥ since) = #[] := by
      apply Array.ext'
      simp only [Array.toList_filter]
      exact List.filter_eq_nil_iff.2 fun e he => by have := hLold e he; simp; omega
    generalize es.filter (fun e => !seen.contains e.born) = L at hleft hu
    obtain ⟨em, hrun⟩ : ∃ em, (Instr.next (.pointer (some ⟨pl.b, 0, none⟩)) false ty).run P w = (do
        match (((if (⟨L'⟩ : Array MapEntry).isEmpty then #[none] else #[]) ++ (⟨L'⟩ : Array MapEntry).map some)[← choose (.mapNext ((if (⟨L'⟩ : Array MapEntry).isEmpty then #[none] else #[]) ++ (⟨L'⟩ : Array MapEntry).map some).size)]? : Option (Option MapEntry)) with
        | some (some e) => do
          setObj pl.b (.mapIter (some plm.b) since ((⟨seen⟩ : Array Nat).push e.born) ck)
          pure (.tuple #[.bool true, e.key, e.val])
        | some none => pure (.tuple #[.bool false])
        | none => stuck em : Sem Value).run P w := by
      apply Exists.intro
      simp only [Instr.next, Sem.run_bind, run_getObj_miter g1, Result.andThen_ok, run_getObj_map m1, hgone', Bool.false_eq_true, if_false, hleftA, hf1, hf2, Array.append_empty]
      rfl
    split at hu
    · simp only [Option.some.injEq] at hu; subst hu
      cases hleft
      refine ⟨_, _, List.mem_singleton.2 rfl, Goes.pure hk (vrun (v := .tuple #[.bool false]) ?_) (.tuple (.cons (.bool _) .nil))⟩
      rw [hrun]
      simp [Question.forced]
    · rename_i hne
      simp only [Option.some.injEq] at hu; subst hu
      have hne' : L' ≠ [] := fun hh => by subst hh; cases hleft; exact hne rfl
      have hem : (⟨L'⟩ : Array MapEntry).isEmpty = false := by cases L' with | nil => exact absurd rfl hne' | cons _ _ => rfl
      simp only [hem, Bool.false_eq_true, if_false, Array.empty_append, Array.size_map] at hrun
      have hpos : 0 < L'.length := List.length_pos_iff.2 hne'
      have hch : ∃ i w1, i < L'.length ∧ (w1 = w ∨ w1 = w.drew) ∧ (choose (.mapNext (⟨L'⟩ : Array MapEntry).size)).run P w = .ok i w1 := by
        rw [run_choose]
        by_cases hfo : (Question.mapNext (⟨L'⟩ : Array MapEntry).size).forced = true
        · rw [if_pos hfo]; exact ⟨0, w, hpos, .inl rfl, rfl⟩
        · rw [if_neg hfo]
          refine ⟨_, w.drew, ?_, .inr rfl, rfl⟩
          exact Nat.mod_lt _ hpos
      obtain ⟨i, w1, hi, hw1, hch⟩ := hch
      have hk1 : Hkt P τ ρ h w1 := by rcases hw1 with rfl | rfl; exact hk; exact hk.drew
      have hheap : w1.heap = w.heap := by rcases hw1 with rfl | rfl <;> rfl
      have hlenE := hleft.length
      obtain ⟨e, he⟩ : ∃ e, L[i]? = some e := ⟨L[i]'(by omega), by simp [show i < L.length by omega]⟩
      obtain ⟨e', he', ha, hb, hc⟩ := hleft.get he
      have hmem : e ∈ L := List.mem_of_getElem? he
      refine ⟨_, _, List.mem_map.2 ⟨e, hmem, rfl⟩, ?_⟩
      have g1' : w1.heap[pl.b]? = some (.mapIter (some plm.b) since ⟨seen⟩ last) := by rw [hheap]; exact g1
      have hlt := (Array.getElem?_eq_some_iff.1 g1').1
      obtain ⟨k1, k2⟩ := hk1.write (w' := { w1 with heap := w1.heap.setIfInBounds pl.b (.mapIter (some plm.b) since ((⟨seen⟩ : Array Nat).push e'.born) ck) }) (hb' := .miter (some m) since (seen ++ [e.born]) ck) e1 eH rfl (by simp)
        (fun b hb => by show (w1.heap.setIfInBounds pl.b _)[b]? = _; rw [Array.getElem?_setIfInBounds_ne (Ne.symm hb)]) ⟨plm, g0, by simp [hlt, hc], g2⟩ rfl rfl rfl
      have k2' : Stp ρ w h.nx ρ { w1 with heap := w1.heap.setIfInBounds pl.b (.mapIter (some plm.b) since ((⟨seen⟩ : Array Nat).push e'.born) ck) } (h.put r (.miter (some m) since (seen ++ [e.born]) ck)).nx (h.put r (.miter (some m) since (seen ++ [e.born]) ck)).lo := by
        rcases hw1 with rfl | rfl
        · exact k2
        · exact k2.undrew
      refine Goes.made (vrun (v := .tuple #[.bool true, e'.key, e'.val]) ?_) (.tuple (.cons (.bool _) (.cons ha (.cons hb .nil)))) k1 k2' (h.low_le r).1
      rw [hrun, Sem.run_bind, hch]
      have hso := setObj_run (P := P) (o' := .mapIter (some plm.b) since ((⟨seen⟩ : Array Nat).push e'.born) ck) g1' (by simp)
      have hget : ((⟨L'⟩ : Array MapEntry).map some)[i]? = some (some e') := by simp [he']
      simp only [Result.andThen_ok, hget, Sem.run_bind, hso, Sem.run_pure]
  · cases hu
end
end Go.Ev
end

section
/-
  Composite literals, type assertions; every leaf operation.
-/
namespace Go.Ev
section
variable {P : Program} {τ : Tab} {ρ : Ren} {h : Hp} {w : World}

theorem entry_sound (hk : Hkt P τ ρ h w) {it it' u : Value} (hu : entryB it h = some u) (hx : VR ρ it it') : ∃ u', (Instr.entry it').run P w = .ok u' w ∧ VR ρ u u' := by
  unfold entryB at hu
  split at hu
  case h_2 => cases hu
  rename_i r
  cases hx with | @ptr _ _ pl e1 =>
  split at hu
  case h_2 => cases hu
  rename_i m since seen last eH
  obtain ⟨plm, g0, g1, g2⟩ := hk.1.hr _ _ _ e1 eH
  rw [g2]
  split at hu
  case h_2 => cases hu
  rename_i st es ck hlast eHm
  obtain ⟨es', m1, m2⟩ := hk.1.hr _ _ _ g0 eHm
  replace hu := bifO hu; obtain ⟨hck, hu⟩ := hu
  have hck := Nat.eq_of_beq_eq_true hck
  subst hck
  split at hu
  case h_2 => cases hu
  rename_i e he
  simp at hu; subst hu
  have : ∀ {l l' : List MapEntry}, ER ρ l l' → l.find? (fun e => e.born == st) = some e → ∃ e', l'.find? (fun e => e.born == st) = some e' ∧ VR ρ e.key e'.key ∧ VR ρ e.val e'.val := by
    intro l l' hl
    induction hl with
    | nil => intro h; simp at h
    | cons a b c r ih =>
      rename_i e0 e0' l l'
      intro h
      rw [List.find?_cons] at h ⊢
      rw [← c]
      cases hb : e0.born == st with
      | true => rw [hb] at h; simp at h; subst h; exact ⟨e0', rfl, a, b⟩
      | false => rw [hb] at h; simp at h; exact ih h
  obtain ⟨e', f1, f2, f3⟩ := this m2 he
  have f1' : es'.find? (fun e => e.born == st) = some e' := by obtain ⟨l⟩ := es'; simpa using f1
  have hb : (⟨seen⟩ : Array Nat).back? = some st := by simpa using hlast
  refine ⟨.tuple #[e'.key, e'.val], ?_, .tuple (.cons f2 (.cons f3 .nil))⟩
  simp [Instr.entry, run_getObj_miter g1, hb, run_getObj_map m1, f1']

/-! ### composite literals -/
theorem LR.putAt : ∀ {vs vs' cs cs' : List Value} (off : Nat), LR ρ cs cs' → LR ρ vs vs' → LR ρ (putAt cs off vs) (Ev.putAt cs' off vs')
  | _, _, _, _, _, hc, .nil => hc
  | _, _, _, _, off, hc, .cons a r => by
    simp only [Ev.putAt]
    exact LR.putAt (off + 1) (hc.set off a) r
theorem putAt_length : ∀ (vs cs : List Value) (off : Nat), (putAt cs off vs).length = cs.length
  | [], _, _ => rfl
  | v :: vs, cs, off => by rw [putAt, putAt_length]; simp
theorem zipFold (off : Nat) : ∀ (l : List Value) (k : Nat) (C : Array Value), ((l.zipIdx k).foldl (fun cs (p : Value × Nat) => cs.setIfInBounds (off + p.2) p.1) C).toList = putAt C.toList (off + k) l
  | [], k, C => rfl
  | v :: l, k, C => by
    rw [List.zipIdx_cons, List.foldl_cons, zipFold off l (k + 1), putAt]
    simp [Nat.add_assoc]

inductive PR (ρ : Ren) : List (Nat × Value) → List (Nat × Value) → Prop
  | nil : PR ρ [] []
  | cons {i v v' l l'} : VR ρ v v' → PR ρ l l' → PR ρ ((i, v) :: l) ((i, v') :: l')

theorem fill_sound {place place' : Nat → Option (Nat × Nat)} (hp : ∀ i p, place i = some p → place' i = some p) : ∀ (ps ps' : List (Nat × Value)) (cs cs2 : List Value) (C : Array Value), fillB place ps cs = some cs2 → PR ρ ps ps' → LR ρ cs C.toList →
    ∃ C2, Instr.fill place' C ps' = some C2 ∧ LR ρ cs2 C2.toList := by
  intro ps
  induction ps with
  | nil => intro ps' cs cs2 C hf hpr hl; cases hpr; simp [fillB] at hf; subst hf; exact ⟨C, rfl, hl⟩
  | cons q ps ih =>
    intro ps' cs cs2 C hf hpr hl
    cases hpr with | @cons i v v' _ l' hv hr =>
    simp only [fillB] at hf
    split at hf
    · cases hf
    · rename_i off size hpl
      replace hf := bifO hf; obtain ⟨hc, hf⟩ := hf
      obtain ⟨hc, c3⟩ := and2 hc
      obtain ⟨c1, c2⟩ := and2 hc
      have c1 := Nat.eq_of_beq_eq_true c1
      have c2 := Nat.le_of_ble_eq_true c2
      have hvl := hv.cellsOf
      have hlen : v'.cells.size = size := by rw [← c1, hvl.length, Array.length_toList]
      have hC : C.size = cs.length := by rw [hl.length, Array.length_toList]
      simp only [Instr.fill, hp _ _ hpl]
      rw [if_neg (by simp [hlen]; omega)]
      refine ih l' _ _ _ hf hr ?_
      have := zipFold off v'.cells.toList 0 C
      rw [← Array.foldl_toList, Array.toList_zipIdx]
      rw [this]
      exact hl.putAt off hvl

theorem evps_sound (hk : Hkt P τ ρ h w) {fr : Fr} {a : Act} (hf : Fok ρ fr a) : ∀ {ps : List (Nat × Operand)} {vs : List (Nat × Value)}, evps τ fr ps = some vs → PR ρ vs (ps.map fun (i, x) => (i, a.eval x))
  | [], vs, hx => by simp [evps] at hx; subst hx; exact .nil
  | (i, x) :: ps, vs, hx => by
    simp only [evps] at hx
    split at hx
    · rename_i v vs' h1 h2
      simp at hx; subst hx
      exact .cons (ev_sound hk hf h1) (evps_sound hk hf h2)
    · cases hx

theorem build_sound (T : TabOk P τ) {t : TypeId} {ps : List (Nat × Value)} {ps' : Array (Nat × Value)} {u : Value} (hu : buildB τ t ps = some u) (hp : PR ρ ps ps'.toList) (w : World) :
    ∃ u', (Instr.build t ps').run P w = .ok u' w ∧ VR ρ u u' := by
  have key : ∀ (i : TypeInfo) (z : Value), τ.inf.get t = some i → i.zero = some z → plainV z = true → ∀ {d : TypeDesc}, τ.ds.get t = some d → ∀ {place place' : Nat → Option (Nat × Nat)} {cs : List Value}, (∀ i p, place i = some p → place' i = some p) →
      fillB place ps (cellsOfV z) = some cs → ∃ C2, Instr.fill place' z.cells ps'.toList = some C2 ∧ LR ρ cs C2.toList := by
    intro i z hi hz hpz d hd place place' cs hpl hf
    exact fill_sound hpl ps ps'.toList _ _ z.cells hf hp (plain_cells hpz)
  unfold buildB at hu
  split at hu
  · rename_i fields z hd hz
    replace hu := bifO hu; obtain ⟨hall, hu⟩ := hu
    split at hu
    · rename_i cs hf
      simp at hu; subst hu
      cases hi : τ.inf.get t with
      | none => unfold zeroV at hz; simp [hi] at hz
      | some i =>
        obtain ⟨z1, z2⟩ := zeroV_spec T hi hz
        have hpm : ∃ places, fields.toList.mapM (fun f => (P.info? f.type).map fun i => (f.offset, i.size)) = some places ∧
            ∀ (j : Nat) (f : Field) (inf : TypeInfo), fields.toList[j]? = some f → τ.inf.get f.type = some inf → places[j]? = some (f.offset, inf.size) := by
          clear hf hd key
          generalize fields.toList = fs at hall
          induction fs with
          | nil => exact ⟨[], rfl, fun j f inf h => by simp at h⟩
          | cons f fs ih =>
            simp only [List.all_cons, Bool.and_eq_true] at hall
            obtain ⟨pls, h1, h2⟩ := ih hall.2
            obtain ⟨inf, hinf⟩ := Option.isSome_iff_exists.1 hall.1
            refine ⟨(f.offset, inf.size) :: pls, by simp [List.mapM_cons, T.inf _ _ hinf, h1], fun j g inf' hj hg => ?_⟩
            cases j with
            | zero => simp at hj; subst hj; rw [hinf] at hg; cases hg; rfl
            | succ j => simp at hj; simpa using h2 j g inf' hj hg
        obtain ⟨places, p1, p2⟩ := hpm
        obtain ⟨C2, f1, f2⟩ := key i z hi z1 z2 hd (place' := fun i => places.toArray[i]?) (fun j p hj => by
          split at hj
          · rename_i f hfj
            split at hj
            · rename_i inf hinf
              simp at hj; subst hj
              simpa using p2 j f inf hfj hinf
            · cases hj
          · cases hj) hf
        have hb : P.built t ps'.toList = some C2 := by
          simp only [Program.built, T.inf _ _ hi, T.ds _ _ hd, z1, p1]
          exact f1
        obtain ⟨C2⟩ := C2
        exact ⟨.agg ⟨C2⟩, run_build w t ps' ⟨C2⟩ hb, .agg f2⟩
    · cases hu
  · rename_i n e z hd hz
    split at hu
    · rename_i inf hinf
      split at hu
      · rename_i cs hf
        simp at hu; subst hu
        cases hi : τ.inf.get t with
        | none => unfold zeroV at hz; simp [hi] at hz
        | some i =>
          obtain ⟨z1, z2⟩ := zeroV_spec T hi hz
          obtain ⟨C2, f1, f2⟩ := key i z hi z1 z2 hd (place' := fun i => some (i * inf.size, inf.size)) (fun j p hj => hj) hf
          have hb : P.built t ps'.toList = some C2 := by
            simp only [Program.built, T.inf _ _ hi, T.ds _ _ hd, z1, T.inf _ _ hinf]
            exact f1
          obtain ⟨C2⟩ := C2
          exact ⟨.agg ⟨C2⟩, run_build w t ps' ⟨C2⟩ hb, .agg f2⟩
      · cases hu
    · cases hu
  · cases hu

theorem buildSlice_sound (T : TabOk P τ) (hk : Hkt P τ ρ h w) {t : TypeId} {n : Nat} {ps : List (Nat × Value)} {ps' : Array (Nat × Value)} {u : Value} {h' : Hp} (hu : buildSliceB τ t n ps h = some (u, h')) (hp : PR ρ ps ps'.toList) :
    Goes P τ ρ h w (do pure (.value (← Instr.buildSlice t n ps'))) u h' := by
  unfold buildSliceB at hu
  split at hu
  case h_2 => cases hu
  rename_i e hd
  split at hu
  case h_2 => cases hu
  rename_i i z hi hz
  replace hu := bifO hu; obtain ⟨hc, hu⟩ := hu
  obtain ⟨hc, c3⟩ := and2 hc
  obtain ⟨c1, c2⟩ := and2 hc
  have c2 := Nat.eq_of_beq_eq_true c2
  have c3 := Nat.le_of_ble_eq_true c3
  split at hu
  case h_2 => cases hu
  rename_i cs hf
  simp only [Option.some.injEq, Prod.mk.injEq] at hu; obtain ⟨rfl, rfl⟩ := hu
  obtain ⟨z1, z2⟩ := zeroV_spec T hi hz
  have hzl := plain_cells (ρ := ρ) z2
  have hzs : z.cells.size = i.size := by rw [← c2, hzl.length, Array.length_toList]
  have hm : madeCells z.cells (n * i.size) = ⟨repl z.cells.toList n⟩ := by rw [← hzs, ← made_repl]
  obtain ⟨C2, f1, f2⟩ := fill_sound (place' := fun k => some (k * i.size, i.size)) (fun j p hj => hj) ps ps'.toList _ _ (madeCells z.cells (n * i.size)) hf hp (by rw [hm]; exact hzl.repl n)
  obtain ⟨k1, k2⟩ := row_new hk e f2
  refine Goes.made (vrun (v := .slice (some ⟨w.heap.size, 0, none⟩) n n) ?_) (by
    have h2 := VR.slice (ρ := ρ.upd h.nx ⟨w.heap.size, 0, 0⟩) (id := h.nx) (off := 0) (sp := none) (len := n) (cap := n) (o' := 0) (Ren.upd_same _ _) (fun _ => rfl)
    simpa [slk] using h2) k1 k2 (WS.le_refl _)
  have h24 : ¬ (n * i.size > 2 ^ 24) := by omega
  by_cases h0 : n * i.size = 0
  · have hmk : (Array.range (n * i.size)).map (fun x => (#[] : Array Value)[x % (#[] : Array Value).size]!) = madeCells z.cells (n * i.size) := by simp [h0, madeCells]
    simp only [Instr.buildSlice, Sem.run_bind, run_underlying (T.ds _ _ hd), run_sizeOf (T.inf _ _ hi), Result.andThen_ok, h24, if_false, if_pos h0, Sem.run_pure, hmk, f1, newRow, run_newObj]
    rfl
  · have hmk : (Array.range (n * i.size)).map (fun x => z.cells[x % z.cells.size]!) = madeCells z.cells (n * i.size) := rfl
    simp only [Instr.buildSlice, Sem.run_bind, run_underlying (T.ds _ _ hd), run_sizeOf (T.inf _ _ hi), Result.andThen_ok, h24, if_false, if_neg h0, run_zeroValue (T.inf _ _ hi) z1, Sem.run_pure, hmk, f1, newRow, run_newObj]
    rfl
end
end Go.Ev
end

section
/-
  Every operation that calls nothing.
-/
namespace Go.Ev
section
variable {P : Program} {τ : Tab} {ρ : Ren} {h : Hp} {w : World}

theorem assert_sound (T : TabOk P τ) {x x' u : Value} {xt t : TypeId} {ok : Bool} (hu : assertB τ x t ok = some u) (hx : VR ρ x x') (w : World) :
    ∃ u', (Instr.typeAssert x' xt t ok).run P w = .ok u' w ∧ VR ρ u u' := by
  unfold assertB at hu
  simp only [] at hu
  split at hu
  · cases hu
  rename_i td hd
  have fails : ∀ (s d : Option TypeId) (m : String) {v : Value}, (bif ok then (match zeroV τ t with | some z => some (.tuple #[z, .bool false]) | none => none) else none) = some v →
      ∃ v', (do if ok then pure (.tuple #[← zeroValue t, .bool false]) else runtimePanic (.typeAssertion s d t m) : Sem Value).run P w = .ok v' w ∧ VR ρ v v' := by
    intro s d m v hv
    replace hv := bifO hv; obtain ⟨h1, hv⟩ := hv
    split at hv
    · rename_i z hz
      simp at hv; subst hv
      obtain ⟨hzr, hzp⟩ := zeroV_run T hz
      exact ⟨.tuple #[z, .bool false], by simp [h1, hzr], .tuple (.cons (VR.plain_refl hzp) (.cons (.bool _) .nil))⟩
    · cases hv
  have holds : ∀ {v v' : Value}, VR ρ v v' → ∃ u', (pure (if ok then .tuple #[v', .bool true] else v') : Sem Value).run P w = .ok u' w ∧ VR ρ (if ok = true then .tuple #[v, .bool true] else v) u' := by
    intro v v' hv
    refine ⟨_, rfl, ?_⟩
    cases ok
    · exact hv
    · exact .tuple (.cons hv (.cons (.bool _) .nil))
  unfold Instr.typeAssert
  simp only [Sem.run_bind, run_underlying (T.ds _ _ hd), Result.andThen_ok]
  split at hu
  · cases hx; exact fails _ _ _ hu
  · rename_i want t0 v0
    cases hx with | @iface _ _ v' hv =>
    split at hu
    · rename_i i hi
      simp only [Sem.run_bind, run_typeInfo (T.inf _ _ hi), Result.andThen_ok]
      split at hu
      · rename_i hm
        simp at hu; subst hu
        rw [hm]
        exact holds (.iface hv)
      · rename_i m hm
        rw [hm]
        exact fails _ _ _ hu
    · cases hu
  · rename_i hni
    cases hx
    cases td <;> first
      | exact absurd rfl (hni _)
      | exact fails _ _ _ hu
  · rename_i t0 v0 hni
    cases hx with | @iface _ _ v' hv =>
    split at hu
    · rename_i heq
      simp at hu; subst hu
      obtain ⟨u', h1, h2⟩ := holds hv
      refine ⟨u', ?_, h2⟩
      cases td <;> first
        | exact absurd rfl (hni _)
        | (simp only [heq, if_true]; exact h1)
    · rename_i heq
      obtain ⟨u', h1, h2⟩ := fails (some xt) (some t0) "" hu
      refine ⟨u', ?_, h2⟩
      cases td <;> first
        | exact absurd rfl (hni _)
        | (simp only [heq, if_false]; exact h1)
  · cases hu

theorem of_value (hk : Hkt P τ ρ h w) {s : Sem Value} {u : Value} (hs : ∃ u', s.run P w = .ok u' w ∧ VR ρ u u') : Goes P τ ρ h w (do pure (.value (← s))) u h := by
  obtain ⟨u', h1, h2⟩ := hs
  exact Goes.pure hk (vrun h1) h2

theorem ok1_eq {o : Option Value} {v : Value} {h h' : Hp} (e : ok1 h o = some (v, h')) : o = some v ∧ h' = h := by
  cases o with
  | none => cases e
  | some x => simp [ok1] at e; exact ⟨by rw [e.1], e.2.symm⟩
theorem okU_eq {o : Option Hp} {v : Value} {h' : Hp} (e : okU o = some (v, h')) : o = some h' ∧ v = .tuple #[] := by
  cases o with
  | none => cases e
  | some x => simp [okU] at e; exact ⟨by rw [e.2], e.1.symm⟩
theorem ovr_of (hk : Hkt P τ ρ h w) {fr : Fr} {a : Act} (hf : Fok ρ fr a) {x : Option Operand} {v : Option Value} (hx : evo τ fr x = some v) : OVR ρ v (x.map a.eval) := by
  rcases evo_sound hk hf hx with ⟨rfl, rfl⟩ | ⟨o, u, rfl, rfl, hv⟩
  · constructor
  · constructor; exact hv

theorem leaf_sound (T : TabOk P τ) (hk : Hkt P τ ρ h w) {fr : Fr} {a : Act} (hf : Fok ρ fr a) {o : Oper} {v : Value} {h' : Hp} (hu : leafB τ fr h o.op = some (v, h')) :
    Goes P τ ρ h w (execOp a.eval o) v h' := by
  have E : ∀ {x : Operand} {v : Value}, ev τ fr x = some v → VR ρ v (a.eval x) := fun hx => ev_sound hk hf hx
  unfold leafB at hu
  unfold execOp
  simp only []
  split at hu
  · rename_i x ho
    obtain ⟨h1, rfl⟩ := ok1_eq hu
    simp only [ho]; exact Goes.pure hk rfl (E h1)
  · rename_i x ho
    obtain ⟨h1, rfl⟩ := ok1_eq hu
    simp only [ho]; exact Goes.pure hk rfl (E h1)
  · rename_i c x y ho
    split at hu
    · rename_i t hc
      obtain ⟨h1, rfl⟩ := ok1_eq hu
      simp only [ho]
      have hcv := E hc
      cases hcv' : a.eval c <;> rw [hcv'] at hcv <;> cases hcv
      cases t
      · exact Goes.pure hk (by simp [asBool]) (E h1)
      · exact Goes.pure hk (by simp [asBool]) (E h1)
    · cases hu
  · -- alloc
    rename_i t ho
    split at hu
    · rename_i z hz
      simp only [ho]
      obtain ⟨hzr, hzp⟩ := zeroV_run T hz
      refine box_sound hk t (VR.plain_refl hzp) hu (vrun ?_)
      simp [Instr.alloc, hzr, newVar, newRow]
    · cases hu
  · -- box
    rename_i t x ho
    split at hu
    · rename_i v0 hv
      simp only [ho]
      refine box_sound hk t (E hv) hu (vrun ?_)
      simp [Instr.box, newVar, newRow]
    · cases hu
  · -- build
    rename_i t ps ho
    split at hu
    · rename_i vs hv
      obtain ⟨h1, rfl⟩ := ok1_eq hu
      simp only [ho]
      have hp := evps_sound hk hf hv
      rw [← Array.toList_map] at hp
      exact of_value hk (build_sound T h1 hp w)
    · cases hu
  · -- buildSlice
    rename_i t n ps ho
    split at hu
    · rename_i vs hv
      simp only [ho]
      have hp := evps_sound hk hf hv
      rw [← Array.toList_map] at hp
      exact buildSlice_sound T hk hu hp
    · cases hu
  · -- load
    rename_i t x ho
    split at hu
    · rename_i id off hv
      obtain ⟨h1, rfl⟩ := ok1_eq hu
      simp only [ho]
      have hx := E hv
      generalize a.eval x = x' at hx ⊢
      cases hx with | @ptr _ _ pl e1 =>
      obtain ⟨v', k1, k2⟩ := loadAt_hk T hk e1 h1
      exact of_value hk ⟨v', by simp [Instr.loadAt, Instr.sureAddr, k1], k2⟩
    · cases hu
  · -- store
    rename_i t x y ho
    split at hu
    · rename_i id off v0 hv hv0
      obtain ⟨h1, rfl⟩ := okU_eq hu
      simp only [ho]
      have hx := E hv
      generalize a.eval x = x' at hx ⊢
      cases hx with | @ptr _ _ pl e1 =>
      obtain ⟨w', k1, k2, k3, k4⟩ := storeAt_sound T hk e1 h1 (E hv0)
      exact uGoes (by simp [Instr.storeAt, Instr.sureAddr, k1]) k2 k3 k4
    · cases hu
  · -- nilCheck
    rename_i x ho
    split at hu
    all_goals first
      | (rename_i hv
         simp only [Option.some.injEq, Prod.mk.injEq] at hu; obtain ⟨rfl, rfl⟩ := hu
         simp only [ho]
         have hx := E hv
         generalize a.eval x = x' at hx ⊢
         have hx0 := hx
         cases hx with
         | ptr e1 => exact Goes.pure hk rfl hx0)
      | (rename_i hv
         simp only [Option.some.injEq, Prod.mk.injEq] at hu; obtain ⟨rfl, rfl⟩ := hu
         simp only [ho]
         have hx := E hv
         generalize a.eval x = x' at hx ⊢
         have hx0 := hx
         cases hx with
         | func hfn _ _ => cases hfn; exact Goes.pure hk rfl hx0)
      | (rename_i hv
         simp only [Option.some.injEq, Prod.mk.injEq] at hu; obtain ⟨rfl, rfl⟩ := hu
         simp only [ho]
         have hx := E hv
         generalize a.eval x = x' at hx ⊢
         have hx0 := hx
         cases hx with
         | iface _ => exact Goes.pure hk rfl hx0)
      | (cases hu; done)
  · -- binOp
    rename_i op t x y yt ho
    split at hu
    · rename_i v1 v2 hv1 hv2
      obtain ⟨h1, rfl⟩ := ok1_eq hu
      simp only [ho]
      exact ok1_of (binB_sound T h1 (E hv1) (E hv2) w) hk
    · cases hu
  · -- unOp
    rename_i op t x ho
    split at hu
    · rename_i v1 hv1
      obtain ⟨h1, rfl⟩ := ok1_eq hu
      simp only [ho]
      exact ok1_of ⟨unB_sound h1 (E hv1) w, unary_plain h1⟩ hk
    · cases hu
  · -- convert
    rename_i s d x ho
    split at hu
    · rename_i v1 hv1
      simp only [ho]
      exact conv_sound T hk hu (E hv1)
    · cases hu
  · -- makeInterface
    rename_i t x ho
    split at hu
    · cases hu
    · rename_i v1 d hni hv1 hd
      simp only [Option.some.injEq, Prod.mk.injEq] at hu; obtain ⟨rfl, rfl⟩ := hu
      simp only [ho]
      refine of_value hk ⟨.iface t (a.eval x), ?_, .iface (E hv1)⟩
      simp only [Instr.makeInterface, Sem.run_bind, run_underlying (T.ds _ _ hd), Result.andThen_ok]
      cases d <;> first
        | rfl
        | exact absurd rfl (hni _)
    · cases hu
  · -- makeFunc
    rename_i fn first cap ho
    split at hu
    · rename_i l1 l2 h1 h2
      split at hu
      · cases hu
      · rename_i hny
        simp only [Option.some.injEq, Prod.mk.injEq] at hu; obtain ⟨rfl, rfl⟩ := hu
        simp only [ho]
        have e1 := evs_sound hk hf h1
        have e2 := evs_sound hk hf h2
        rw [← Array.toList_map] at e1 e2
        have hfn : FnR ρ fn fn := by
          cases fn with
          | func f => exact .func f
          | method n => exact .method n
          | methodOf t n => exact .methodOf t n
          | via t p f r => exact .via t p f r
          | yield l => exact absurd rfl (hny _)
        exact of_value hk ⟨.func fn (first.map a.eval) (cap.map a.eval), rfl, .func hfn e1 e2⟩
    · cases hu
  · -- makeMap
    rename_i t r ho
    simp only [ho]
    have hnew : ∀ {s : Sem Next}, s.run P w = .ok (.value (.map (some w.heap.size))) (w.alloc (.map #[] 0)) → Goes P τ ρ h w s (.map (some h.nx)) (h.new (.map [] 0)) := by
      intro s hs
      obtain ⟨k1, k2⟩ := hk.alloc (.map #[] 0) (.map [] 0) 0 ⟨#[], getElem?_alloc_new w _, .nil⟩
      exact Goes.made hs (by have := VR.map (ρ := ρ.upd h.nx ⟨w.heap.size, 0, 0⟩) (id := h.nx) (Ren.upd_same _ _); exact this) k1 k2 (WS.le_refl _)
    split at hu
    · rename_i hr
      simp only [Option.some.injEq, Prod.mk.injEq] at hu; obtain ⟨rfl, rfl⟩ := hu
      rcases evo_sound hk hf hr with ⟨rfl, _⟩ | ⟨o, u, rfl, h2, _⟩
      · exact hnew (vrun (by simp [Instr.makeMap]))
      · cases h2
    · rename_i k n hr
      split at hu
      · rename_i kt et hd
        simp only [Option.some.injEq, Prod.mk.injEq] at hu; obtain ⟨rfl, rfl⟩ := hu
        rcases evo_sound hk hf hr with ⟨rfl, h2⟩ | ⟨o', u, rfl, h2, hv⟩
        · cases h2
        · cases h2
          have hv' : a.eval o' = .int k n := by cases hv' : a.eval o' <;> rw [hv'] at hv <;> cases hv; rfl
          exact hnew (vrun (by simp [Instr.makeMap, run_underlying (T.ds _ _ hd), hv', asInt, asIntOf]))
      · cases hu
    · cases hu
  · -- makeSlice
    rename_i t l c ho
    split at hu
    · rename_i v1 v2 h1 h2
      simp only [ho]
      exact makeSlice_sound T hk hu (E h1) (E h2)
    · cases hu
  · -- slice
    rename_i t x lo hi mx ho
    split at hu
    · rename_i v0 v1 v2 v3 h0 h1 h2 h3
      obtain ⟨k1, rfl⟩ := ok1_eq hu
      simp only [ho]
      exact of_value hk (slice_sound T k1 (E h0) (ovr_of hk hf h1) (ovr_of hk hf h2) (ovr_of hk hf h3) w)
    · cases hu
  · -- fieldAddr
    rename_i t x f ho
    split at hu
    · rename_i v0 h0
      obtain ⟨k1, rfl⟩ := ok1_eq hu
      simp only [ho]
      exact of_value hk (fieldAddr_sound T k1 (E h0) w)
    · cases hu
  · -- field
    rename_i t x f ho
    split at hu
    · rename_i v0 h0
      obtain ⟨k1, rfl⟩ := ok1_eq hu
      simp only [ho]
      exact of_value hk (field_sound T k1 (E h0) w)
    · cases hu
  · -- indexAddr
    rename_i t x i ho
    split at hu
    · rename_i v0 v1 h0 h1
      obtain ⟨k1, rfl⟩ := ok1_eq hu
      simp only [ho]
      exact of_value hk (indexAddr_sound T k1 (E h0) (E h1) w)
    · cases hu
  · -- index
    rename_i t x i ho
    split at hu
    · rename_i v0 v1 h0 h1
      obtain ⟨k1, rfl⟩ := ok1_eq hu
      simp only [ho]
      exact of_value hk (index_sound T k1 (E h0) (E h1) w)
    · cases hu
  · -- lookup
    rename_i t x i ok ho
    split at hu
    · rename_i v0 v1 h0 h1
      obtain ⟨k1, rfl⟩ := ok1_eq hu
      simp only [ho]
      exact of_value hk (lookup_sound T hk k1 (E h0) (E h1))
    · cases hu
  · -- mapUpdate
    rename_i t m k x ho
    split at hu
    · rename_i v0 v1 v2 h0 h1 h2
      obtain ⟨k1, rfl⟩ := okU_eq hu
      simp only [ho]
      exact mapUpdate_sound T hk k1 (E h0) (E h1) (E h2)
    · cases hu
  · -- insert
    rename_i t m k x ho
    split at hu
    · rename_i v0 v1 v2 h0 h1 h2
      obtain ⟨k1, rfl⟩ := okU_eq hu
      simp only [ho]
      exact mapUpdate_sound T hk k1 (E h0) (E h1) (E h2)
    · cases hu
  · -- mapEntry
    rename_i t m k ho
    split at hu
    · rename_i v0 v1 h0 h1
      simp only [ho]
      exact mapEntry_sound T hk hu (E h0) (E h1)
    · cases hu
  · -- entryStore
    rename_i t m s x ho
    split at hu
    · rename_i v0 v1 v2 h0 h1 h2
      obtain ⟨k1, rfl⟩ := okU_eq hu
      simp only [ho]
      exact entryStore_sound hk k1 (E h0) (E h1) (E h2)
    · cases hu
  · -- range
    rename_i t x ho
    split at hu
    · rename_i v0 h0
      simp only [ho]
      exact range_sound T hk hu (E h0)
    · cases hu
  · -- entry
    rename_i it ho
    split at hu
    · rename_i v0 h0
      obtain ⟨k1, rfl⟩ := ok1_eq hu
      simp only [ho]
      exact of_value hk (entry_sound hk k1 (E h0))
    · cases hu
  · -- typeAssert
    rename_i x xt t ok ho
    split at hu
    · rename_i v0 h0
      obtain ⟨k1, rfl⟩ := ok1_eq hu
      simp only [ho]
      exact of_value hk (assert_sound T k1 (E h0) w)
    · cases hu
  · -- extract
    rename_i x i ho
    split at hu
    · rename_i vs h0
      obtain ⟨vs⟩ := vs
      obtain ⟨k1, rfl⟩ := ok1_eq hu
      simp only [ho]
      have hx := E h0
      cases hx' : a.eval x <;> rw [hx'] at hx <;> cases hx
      rename_i l' hl
      obtain ⟨v', g1, g2⟩ := hl.get k1
      exact of_value hk ⟨v', by simp [Instr.extract, g1], g2⟩
    · cases hu
  · -- sliceToArrayPointer
    rename_i t x ho
    split at hu
    · rename_i v0 h0
      obtain ⟨k1, rfl⟩ := ok1_eq hu
      simp only [ho]
      exact of_value hk (arrPtr_sound T k1 (E h0) w)
    · cases hu
  · cases hu
end
end Go.Ev
end
