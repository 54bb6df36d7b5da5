/-
  The evaluator of closed runs (a part): EvS9, EvS10.
-/
import Derived.Test.YtehhkecoedbjoaaGreatDoorEv4
import Derived.Lib.UnsafeStr
set_option linter.unusedVariables false
set_option linter.unusedSimpArgs false
set_option linter.unusedSectionVars false
section
/-
  The other builtins.
-/
namespace Go.Ev
section
variable {P : Program} {τ : Tab} {ρ : Ren} {h : Hp} {w : World}

theorem copy_sound (T : TabOk P τ) (hk : Hkt P τ ρ h w) {ts : List TypeId} {vs vs' : List Value} {u : Value} {h' : Hp} (ty : TypeId) (hu : copyB τ ts vs h = some (u, h')) (hv : LR ρ vs vs') :
    Goes P τ ρ h w (do pure (.value (← Builtin.copy_ ⟨ts⟩ ty ⟨vs'⟩))) u h' := by
  unfold copyB at hu
  split at hu
  case h_2 => cases hu
  rename_i dt ts d s
  cases hv with | cons hd hv =>
  cases hv with | cons hs hv =>
  cases hv
  rename_i d' s'
  split at hu
  case h_2 => cases hu
  rename_i e hdt
  split at hu
  case h_2 => cases hu
  rename_i i dn sn hi hdn hsn
  split at hu
  case h_2 => cases hu
  rename_i cs hsrc
  obtain ⟨cs', l1, l2, l3⟩ := src_sound hk hs hsrc hsn (Nat.min_le_left _ _)
  have hln := lenB_run (P := P) hs hsn w
  split at hu
  · rename_i l c
    simp only [Option.some.injEq, Prod.mk.injEq] at hu; obtain ⟨rfl, rfl⟩ := hu
    cases hd
    have : l = 0 ∧ dn = 0 := by
      unfold lenB at hdn
      split at hdn
      · rename_i heq; cases heq; simp at hdn; exact ⟨rfl, hdn.symm⟩
      · rename_i heq; cases heq
      · rename_i heq; cases heq
      · cases hdn
    obtain ⟨rfl, rfl⟩ := this
    refine Goes.pure hk (vrun (v := .int .i64 0) ?_) (.int _ _)
    simp only [Nat.min_zero] at l3
    simp [Builtin.copy_, run_underlying (T.ds _ _ hdt), hln, run_sizeOf (T.inf _ _ hi), l3, goInt]
  · rename_i a l c
    cases hd with | @slice id off sp _ _ pl o' e1 e2 =>
    have hdl : dn = l := by
      have hq : lenB (.slice (some ⟨id, off, sp⟩) l c) = some l := rfl
      exact Option.some.inj (hdn.symm.trans hq)
    subst hdl
    have hm : Nat.min sn dn = min sn dn := rfl
    cases hem : cs.isEmpty with
    | true =>
      simp only [hem, cond_true, Option.some.injEq, Prod.mk.injEq] at hu; obtain ⟨rfl, rfl⟩ := hu
      have : cs = [] := by simpa using hem
      subst this
      cases l1
      refine Goes.pure hk (vrun (v := .int .i64 _) ?_) (.int _ _)
      simp [Builtin.copy_, run_underlying (T.ds _ _ hdt), hln, run_sizeOf (T.inf _ _ hi), hm, l3, goInt, storeCells]
    | false =>
      simp only [hem, cond_false] at hu
      split at hu
      case h_2 => cases hu
      rename_i h1 hst
      simp only [Option.some.injEq, Prod.mk.injEq] at hu; obtain ⟨rfl, rfl⟩ := hu
      have hne : min sn dn ≠ 0 := fun hh => by
        rw [hh, Nat.zero_mul] at l2
        have := List.eq_nil_of_length_eq_zero l2
        subst this; simp at hem
      have ho := e2 (by omega)
      obtain ⟨w', s1, s2, s3, s4⟩ := storeB_sound hk e1 hst l1
      refine Goes.made (vrun (v := .int .i64 _) ?_) (.int _ _) s2 s3 s4
      simp [Builtin.copy_, run_underlying (T.ds _ _ hdt), hln, run_sizeOf (T.inf _ _ hi), hm, l3, goInt, ho, s1]
  · cases hu

theorem ER.length {es es' : List MapEntry} (h : ER ρ es es') : es.length = es'.length := by
  induction h with
  | nil => rfl
  | cons _ _ _ _ ih => simp [ih]

theorem run_getObj_map {r : Nat} {es : Array MapEntry} {ck : Nat} (hr : w.heap[r]? = some (.map es ck)) : (getObj r).run P w = .ok (.map es ck) w := by
  simp [getObj, Sem.run, hr]

theorem len_sound (T : TabOk P τ) (hk : Hkt P τ ρ h w) {ts : List TypeId} {vs vs' : List Value} {u : Value} (ty : TypeId) (hu : lenOpB τ ts vs h = some u) (hv : LR ρ vs vs') :
    (Builtin.len_ ⟨ts⟩ ty ⟨vs'⟩).run P w = .ok u w ∧ plainCell u = true := by
  unfold lenOpB at hu
  split at hu
  case h_2 => cases hu
  rename_i t ts x xs
  cases hv with | cons hx hv =>
  split at hu
  · cases hu
  rename_i td hd
  split at hu
  · simp at hu; subst hu; cases hx; exact ⟨by simp [Builtin.len_, run_underlying (T.ds _ _ hd), goInt], rfl⟩
  · simp at hu; subst hu; exact ⟨by simp [Builtin.len_, run_underlying (T.ds _ _ hd), goInt], rfl⟩
  · simp at hu; subst hu; cases hx <;> exact ⟨by simp [Builtin.len_, run_underlying (T.ds _ _ hd), goInt], rfl⟩
  · simp at hu; subst hu; cases hx; exact ⟨by simp [Builtin.len_, run_underlying (T.ds _ _ hd), goInt], rfl⟩
  · split at hu
    · rename_i r es ck eH
      simp at hu; subst hu
      cases hx with | @map _ pl e1 =>
      obtain ⟨es', g1, g2⟩ := hk.1.hr _ _ _ e1 eH
      exact ⟨by simp [Builtin.len_, run_underlying (T.ds _ _ hd), run_getObj_map g1, goInt, g2.length], rfl⟩
    · cases hu
  · cases hu

theorem cap_sound (T : TabOk P τ) {ts : List TypeId} {vs vs' : List Value} {u : Value} (ty : TypeId) (hu : capB τ ts vs = some u) (hv : LR ρ vs vs') (w : World) :
    (Builtin.cap_ ⟨ts⟩ ty ⟨vs'⟩).run P w = .ok u w ∧ plainCell u = true := by
  unfold capB at hu
  split at hu
  case h_2 => cases hu
  rename_i t ts x xs
  cases hv with | cons hx hv =>
  split at hu
  · rename_i hd; simp at hu; subst hu; cases hx; exact ⟨by simp [Builtin.cap_, run_underlying (T.ds _ _ hd), goInt], rfl⟩
  · rename_i hd; simp at hu; subst hu; cases hx; exact ⟨by simp [Builtin.cap_, run_underlying (T.ds _ _ hd), goInt, slk], rfl⟩
  · rename_i hd; simp at hu; subst hu; exact ⟨by simp [Builtin.cap_, run_underlying (T.ds _ _ hd), goInt], rfl⟩
  · cases hu

theorem fold_sound (f : Value → Value → Option Value) (g : Value → Value → Sem Value) (hfg : ∀ x y z x' y', f x y = some z → VR ρ x x' → VR ρ y y' → ∀ w, (g x' y').run P w = .ok z w ∧ plainCell z = true) :
    ∀ (l l' : List Value) (x x' u : Value), foldMM f l x = some u → LR ρ l l' → VR ρ x x' → ∃ u', (l'.foldlM g x').run P w = .ok u' w ∧ VR ρ u u' := by
  intro l
  induction l with
  | nil => intro l' x x' u hu hl hx; cases hl; simp [foldMM] at hu; subst hu; exact ⟨x', by simp, hx⟩
  | cons y l ih =>
    intro l' x x' u hu hl hx
    cases hl with | cons hy hl =>
    simp only [foldMM] at hu
    split at hu
    · rename_i z hz
      obtain ⟨h1, h2⟩ := hfg _ _ _ _ _ hz hx hy w
      obtain ⟨u', h3, h4⟩ := ih _ z z u hu hl (VR.plainCell_refl h2)
      exact ⟨u', by simp [List.foldlM_cons, h1, h3], h4⟩
    · cases hu
theorem min2_sound {x y z x' y' : Value} (hz : min2B x y = some z) (hx : VR ρ x x') (hy : VR ρ y y') (w : World) : (Builtin.min2 x' y').run P w = .ok z w ∧ plainCell z = true := by
  unfold min2B at hz
  split at hz
  · simp at hz; subst hz; cases hx; cases hy; exact ⟨by simp [Builtin.min2], rfl⟩
  · cases hz
theorem max2_sound {x y z x' y' : Value} (hz : max2B x y = some z) (hx : VR ρ x x') (hy : VR ρ y y') (w : World) : (Builtin.max2 x' y').run P w = .ok z w ∧ plainCell z = true := by
  unfold max2B at hz
  split at hz
  · simp at hz; subst hz; cases hx; cases hy; exact ⟨by simp [Builtin.max2], rfl⟩
  · cases hz

theorem ok1_of {s : Sem Value} {u : Value} (h1 : s.run P w = .ok u w ∧ plainCell u = true) (hk : Hkt P τ ρ h w) : Goes P τ ρ h w (do pure (.value (← s))) u h :=
  Goes.pure hk (vrun h1.1) (VR.plainCell_refl h1.2)

theorem setObj_run {r : Nat} {o o' : Obj} (hr : w.heap[r]? = some o) (ho : ∀ c e f, o ≠ .cells c e f) : (setObj r o').run P w = .ok () { w with heap := w.heap.setIfInBounds r o' } := by
  cases o <;> first
    | exact absurd rfl (ho _ _ _)
    | simp [setObj, Sem.run, hr]

theorem clear_sound (T : TabOk P τ) (hk : Hkt P τ ρ h w) {ts : List TypeId} {vs vs' : List Value} {h' : Hp} (ty : TypeId) (hu : clearB τ ts vs h = some h') (hv : LR ρ vs vs') :
    Goes P τ ρ h w (do pure (.value (← Builtin.clear_ ⟨ts⟩ ty ⟨vs'⟩))) (.tuple #[]) h' := by
  unfold clearB at hu
  split at hu
  case h_2 => cases hu
  rename_i t ts x
  cases hv with | cons hx hv =>
  cases hv
  split at hu
  · rename_i hd
    simp at hu; subst hu; cases hx
    exact Goes.pure hk (vrun (v := .tuple #[]) (by simp [Builtin.clear_, run_underlying (T.ds _ _ hd)])) (.tuple .nil)
  · rename_i hd
    simp at hu; subst hu; cases hx
    exact Goes.pure hk (vrun (v := .tuple #[]) (by simp [Builtin.clear_, run_underlying (T.ds _ _ hd)])) (.tuple .nil)
  · rename_i e a n c hd
    split at hu
    · rename_i i z hi hz
      replace hu := bifO hu; obtain ⟨hc, hu⟩ := hu
      obtain ⟨c1, c2⟩ := and2 hc
      have c1 := Nat.eq_of_beq_eq_true c1
      cases hx with | @slice id off sp _ _ pl o' e1 e2 =>
      have ho := e2 (by omega)
      obtain ⟨z1, z2⟩ := zeroV_spec T hi hz
      have hl := (plain_cells (ρ := ρ) z2).repl (n + 1)
      obtain ⟨w', s1, s2, s3, s4⟩ := storeB_sound hk e1 hu hl
      refine Goes.made (vrun (v := .tuple #[]) ?_) (.tuple .nil) s2 s3 s4
      simp [Builtin.clear_, run_underlying (T.ds _ _ hd), run_zeroValue (T.inf _ _ hi) z1, zeroCells_repl, ho, s1]
    · cases hu
  · rename_i hd
    simp at hu; subst hu; cases hx
    exact Goes.pure hk (vrun (v := .tuple #[]) (by simp [Builtin.clear_, run_underlying (T.ds _ _ hd)])) (.tuple .nil)
  · rename_i kt et r hd
    split at hu
    · rename_i es ck eH
      simp at hu; subst hu
      cases hx with | @map _ pl e1 =>
      obtain ⟨es', g1, g2⟩ := hk.1.hr _ _ _ e1 eH
      have hlt := (Array.getElem?_eq_some_iff.1 g1).1
      obtain ⟨k1, k2⟩ := hk.write (w' := { w with heap := w.heap.setIfInBounds pl.b (.map #[] ck) }) (hb' := .map [] ck) e1 eH rfl (by simp) (fun b hb => by show (w.heap.setIfInBounds pl.b _)[b]? = _; rw [Array.getElem?_setIfInBounds_ne (Ne.symm hb)])
        ⟨#[], by simp [hlt], .nil⟩ rfl rfl rfl
      refine Goes.made (vrun (v := .tuple #[]) ?_) (.tuple .nil) k1 k2 (h.low_le r).1
      simp [Builtin.clear_, run_underlying (T.ds _ _ hd), run_getObj_map g1, setObj_run g1]
    · cases hu
  · cases hu

theorem unsafeSliceData_sound (hk : Hkt P τ ρ h w) {ts : Array TypeId} {vs vs' : List Value} {u : Value} (ty : TypeId) (hu : unsafeSliceDataB vs = some u) (hv : LR ρ vs vs') :
    Goes P τ ρ h w (do pure (.value (← Builtin.unsafeSliceData_ ts ty ⟨vs'⟩))) u h := by
  unfold unsafeSliceDataB at hu
  split at hu
  · simp at hu; subst hu
    cases hv with | cons hx hv => cases hv; cases hx; exact Goes.pure hk (vrun (v := .pointer none) rfl) .nilptr
  · rename_i id off sp l c
    replace hu := bifN hu; obtain ⟨hc, hu⟩ := hu
    have hc : c ≠ 0 := fun hh => by rw [hh] at hc; simp at hc
    simp at hu; subst hu
    cases hv with | cons hx hv =>
    cases hv
    cases hx with | @slice _ _ _ _ _ pl o' e1 e2 =>
    have ho := e2 (by omega)
    subst ho
    exact Goes.pure hk (vrun (Lib.run_unsafeSliceData_row (P := P) w ts ty _ l _ (by omega))) (.ptr e1)
  · cases hu

theorem liesAt_bytes' {e : TypeId} (hc : P.cellsOf e = 1) (count off n : Nat) (hn : off + n ≤ count) : liesAt P P.depth e count off e n = true := by
  have hd : P.depth = (2 * (P.types.size + Made.depth) + 1) + 1 := rfl
  rw [hd]
  simp only [liesAt, Bool.or_eq_true]
  left
  rw [hd]
  simp [rowAt, hc, hn, sameLayout, Nat.mod_one]

theorem run_loadBytes' : ∀ (ns : List Int) (a : Addr) (acc : ByteArray), (∀ (j : Nat) v, (ns.map (Value.int .u8))[j]? = some v → w.cell? (a.add j) = some v) →
    (loadBytes a acc ns.length).run P w = .ok ⟨⟨acc.data.toList ++ ns.map fun n => UInt8.ofNat n.toNat⟩⟩ w
  | [], a, acc, _ => by simp [loadBytes]
  | x :: l, a, acc, h => by
    have h0 : w.cell? a = some (.int .u8 x) := by
      have := h 0 _ rfl
      simpa [Addr.add] using this
    have ih := run_loadBytes' l (a.add 1) (acc.push (UInt8.ofNat x.toNat)) (fun j y hy => by
      have := h (j + 1) y (by simpa using hy)
      have e : (a.add 1).add j = a.add (j + 1) := by
        unfold Addr.add
        by_cases hj : j = 0
        · subst hj; simp
        · simp [hj]; omega
      rw [e]; exact this)
    simp only [List.length_cons, loadBytes, Sem.run_bind, run_load, h0, Result.andThen]
    have hx : x.toNat.toUInt8 = UInt8.ofNat x.toNat := rfl
    rw [hx, ih]
    congr 1
    apply ByteArray.ext
    simp [ByteArray.push]

theorem unsafeString_sound (T : TabOk P τ) (hk : Hkt P τ ρ h w) {ts : List TypeId} {vs vs' : List Value} {u : Value} {h' : Hp} (ty : TypeId) (hu : unsafeStringB τ ts vs h = some (u, h')) (hv : LR ρ vs vs') :
    Goes P τ ρ h w (do pure (.value (← Builtin.unsafeString_ ⟨ts⟩ ty ⟨vs'⟩))) u h' := by
  have hmax : IntKind.i64.max = 9223372036854775807 := rfl
  obtain ⟨e1, e2, e3, e4, e5, hdef⟩ : ∃ e1 e2 e3 e4 e5, ∀ ts p x, Builtin.unsafeString_ ts ty ⟨[.pointer p, x]⟩ = (do
      let n ← asInt x
      let some pt := ts[0]? | stuck e1
      if n < 0 then runtimePanic (.error e2)
      if n > IntKind.i64.max then unsupported (.unsafePointer e3)
      match p with
      | none =>
        if n = 0 then pure (.string .empty)
        else runtimePanic (.error e4)
      | some a =>
        if n = 0 then pure (.string .empty)
        else if ← variablesAt a (← elemOf pt) n.toNat then do
          let s ← loadBytes a .empty n.toNat
          freeze a n.toNat
          pure (.string s)
        else unsupported (.unsafePointer e5)) := ⟨_, _, _, _, _, fun _ _ _ => rfl⟩
  unfold unsafeStringB at hu
  split at hu
  · rename_i pt ts k
    simp only [Option.some.injEq, Prod.mk.injEq] at hu; obtain ⟨rfl, rfl⟩ := hu
    cases hv with | cons hx hv =>
    cases hv with | cons hy hv =>
    cases hv
    cases hx; cases hy
    refine Goes.pure hk (vrun (v := .string .empty) ?_) (.string _)
    rw [hdef]
    simp [asInt, asIntOf, hmax]
  · rename_i pt ts id off k n
    cases hv with | cons hx hv =>
    cases hv with | cons hy hv =>
    cases hv
    cases hy
    cases hx with | @ptr _ _ pl e1 =>
    cases hn0 : Nat.beq n 0 with
    | true =>
      simp only [hn0, cond_true, Option.some.injEq, Prod.mk.injEq] at hu; obtain ⟨rfl, rfl⟩ := hu
      have hn0 := Nat.eq_of_beq_eq_true hn0
      subst hn0
      refine Goes.pure hk (vrun (v := .string .empty) ?_) (.string _)
      rw [hdef]
      simp [asInt, asIntOf, hmax]
    | false =>
      simp only [hn0, cond_false] at hu
      have hn0 : n ≠ 0 := fun hh => by rw [hh] at hn0; simp at hn0
      replace hu := bifO hu; obtain ⟨hb, hu⟩ := hu
      have hb := bigNo_le hb
      split at hu
      · rename_i ue c m e lo hi xx hd eH
        replace hu := bifO hu; obtain ⟨hc, hu⟩ := hu
        obtain ⟨hc, c3⟩ := and2 hc
        obtain ⟨c1, c2⟩ := and2 hc
        have c1 := Nat.eq_of_beq_eq_true c1
        subst c1
        have c3 := Nat.le_of_ble_eq_true c3
        split at hu
        · rename_i i l he hi' hg
          split at hu
          · rename_i bs hbl
            replace hu := bifO hu; obtain ⟨c4, hu⟩ := hu
            have c4 := Nat.eq_of_beq_eq_true c4
            simp only [Option.some.injEq, Prod.mk.injEq] at hu; obtain ⟨rfl, rfl⟩ := hu
            have hbr := hk.1.hr _ _ _ e1 eH
            obtain ⟨C, fz, g1, g2, g3, g4, g5, g6⟩ := hbr
            have hlt := (Array.getElem?_eq_some_iff.1 g1).1
            obtain ⟨l', q1, q2, q3⟩ := gather_run (hk.1.hr _ _ _ e1 eH) hg
            have hlen := (gather_get _ _ _ _ hg).1
            obtain ⟨ns, rfl, rfl⟩ := byteList_spec hbl
            have := q1.ints_eq; subst this
            have hnl : ns.length = n := by simpa using hlen
            have hlb := run_loadBytes' (P := P) (w := w) ns ⟨pl.b, pl.o + off, none⟩ .empty (fun j v hv => by rw [addr_add]; exact q3 j v hv)
            rw [hnl] at hlb
            have hco : P.cellsOf ue = 1 := by simp [Program.cellsOf, T.inf _ _ hi', c4]
            have hlies := liesAt_bytes' (P := P) hco (C.size / P.cellsOf ue) (pl.o + off) n (by rw [hco, Nat.div_one]; omega)
            have hsh : w.shape? pl.b = some (ue, C.size) := by simp [World.shape?, g1]
            have hBR : BR P ρ pl (w.freeze ⟨pl.b, pl.o + off, none⟩ n) (.cells c m ue (bif Nat.ble hi lo then off else min lo off) (bif Nat.ble hi lo then off + n else max hi (off + n)) xx) := by
              refine ⟨C, (if fz.1 == fz.2 then (pl.o + off, pl.o + off + n) else (min fz.1 (pl.o + off), max fz.2 (pl.o + off + n))), ?_, g2, g3, g4, ?_, g6⟩
              · show (if n = 0 then w else _).heap[pl.b]? = _
                simp only [hn0, if_false]
                rw [Array.getElem?_modify, if_pos rfl, g1]
                obtain ⟨f1, f2⟩ := fz
                simp
              · refine .inr (.inr ?_)
                have hne : ¬ (lo = 1 ∧ hi = 0) := fun hh => by
                  obtain ⟨rfl, rfl⟩ := hh; simp at c2
                by_cases hf : fz.1 = fz.2
                · simp only [hf, beq_self_eq_true, if_true]
                  cases hh : Nat.ble hi lo <;> simp <;> omega
                · have hf' : (fz.1 == fz.2) = false := by simpa using hf
                  simp only [hf', Bool.false_eq_true, if_false]
                  rcases g5 with h | ⟨h1, h2, _⟩ | ⟨h1, h2, h3⟩
                  · exact absurd h hf
                  · exact absurd ⟨h1, h2⟩ hne
                  · have : Nat.ble hi lo = false := Bool.eq_false_iff.2 fun hh => by have := Nat.le_of_ble_eq_true hh; omega
                    simp only [this, cond_false]
                    omega
            obtain ⟨k1, k2⟩ := hk.write (w' := w.freeze ⟨pl.b, pl.o + off, none⟩ n) (hdr := by simp [World.freeze, hn0]) e1 eH rfl (by simp [World.freeze, hn0]) (fun b hb => by
              show (if n = 0 then w else _).heap[b]? = _
              simp only [hn0, if_false]
              rw [Array.getElem?_modify, if_neg (Ne.symm hb)]) hBR (by simp [World.freeze, hn0]) (by simp [World.freeze, hn0]) (by simp [World.freeze, hn0])
            refine Goes.made (vrun (v := .string _) ?_) (.string _) k1 k2 (h.low_le id).1
            rw [hdef]
            have hb' : ¬ (9223372036854775807 : Int) < (n : Int) := by omega
            simp [asInt, asIntOf, hmax, hn0, hb', elemOf, run_underlying (T.ds _ _ hd), variablesAt, hsh, hlies, hlb]
            intro hneg; omega
          · cases hu
        · cases hu
      · cases hu
  · cases hu
end
end Go.Ev
end

section
/-
  Maps and iterators.
-/
namespace Go.Ev
section
variable {P : Program} {τ : Tab} {ρ : Ren} {h : Hp} {w : World}

theorem run_forIn_unit {α : Type} {f : α → PUnit → Sem (ForInStep PUnit)} : ∀ (l : List α), (∀ x ∈ l, (f x ⟨⟩).run P w = .ok (.yield ⟨⟩) w) → (forIn l PUnit.unit f).run P w = .ok ⟨⟩ w
  | [], _ => by simp
  | x :: l, hf => by
    simp only [List.forIn_cons, Sem.run_bind, hf x (List.mem_cons_self ..), Result.andThen_ok]
    exact run_forIn_unit l fun y hy => hf y (List.mem_cons_of_mem _ hy)

theorem checkKey_sound (T : TabOk P τ) (empty : Bool) (w : World) : ∀ (d : Nat) (n : Nat) (t : TypeId) (v v' : Value), d ≤ n → keyTy τ d t v = true → VR ρ v v' → (Instr.checkKey empty n t v').run P w = .ok () w := by
  intro d
  induction d with
  | zero => intro n t v v' _ hk; simp [keyTy] at hk
  | succ d ih =>
    intro n t v v' hn hk hv
    obtain ⟨n, rfl⟩ : ∃ m, n = m + 1 := ⟨n - 1, by omega⟩
    simp only [keyTy] at hk
    split at hk
    · rename_i hd; cases hv; simp [Instr.checkKey, run_underlying (T.ds _ _ hd)]
    · rename_i hd; cases hv; simp [Instr.checkKey, run_underlying (T.ds _ _ hd)]
    · rename_i hd; cases hv; simp [Instr.checkKey, run_underlying (T.ds _ _ hd)]
    · rename_i fields cs hd
      obtain ⟨cl⟩ := cs
      cases hv with | agg hl =>
      cases he : τ.eqOk t with
      | false => rw [he] at hk; cases hk
      | true =>
      rw [he] at hk
      simp only [cond_true] at hk
      simp only [Instr.checkKey, Sem.run_bind, run_underlying (T.ds _ _ hd), Result.andThen_ok]
      rw [← Array.forIn_toList]
      rw [run_forIn_unit]
      · simp
      · intro f hf
        have := List.all_eq_true.1 hk f hf
        split at this
        · rename_i p hp
          obtain ⟨p', h1, h2⟩ := partB_sound T hp hl w
          have := ih n f.type p p' (by omega) this h2
          by_cases hu : f.name = "_"
          · simp [hu]
          · simp [hu, h1, this]
        · cases this
    · cases hk

theorem ER.get {es es' : List MapEntry} (h : ER ρ es es') : ∀ {i : Nat} {e : MapEntry}, es[i]? = some e → ∃ e', es'[i]? = some e' ∧ VR ρ e.key e'.key ∧ VR ρ e.val e'.val ∧ e.born = e'.born := by
  induction h with
  | nil => intro i e h; simp at h
  | cons a b c r ih =>
    intro i e he
    cases i with
    | zero => simp at he; subst he; exact ⟨_, rfl, a, b, c⟩
    | succ i => simp at he; obtain ⟨e', h1, h2⟩ := ih he; exact ⟨e', by simpa using h1, h2⟩

theorem sameNow_eq {td : TypeDesc} {t : TypeId} {k k' x x' : Value} {b : Bool} {d : Nat} (hd : τ.ds.get t = some td) (hb : eqB τ (d + 1) t k x = some b) (hk : VR ρ k k') (hx : VR ρ x x') :
    Instr.sameNow td k' x' = some b ∨ Instr.sameNow td k' x' = none := by
  rw [eqB, hd] at hb
  simp only at hb
  split at hb
  all_goals first
    | (cases hk; cases hx; simp only [Instr.sameNow]; first
        | (simp at hb; subst hb; exact .inl rfl)
        | (rw [eqS_bytes] at hb; simp at hb; subst hb; exact .inl rfl)
        | (split at hb
           · rename_i hkk; subst hkk; simp at hb; subst hb; simp
           · cases hb)
        | exact .inr rfl)
    | (cases hb; done)
    | (right; cases hk <;> cases hx <;> rfl)

/-- What is found, and where. -/
inductive FR (ρ : Ren) (es' : List MapEntry) (i0 : Nat) : Option (Nat × MapEntry) → Option (Nat × Value) → Prop
  | none : FR ρ es' i0 none none
  | some {j e e'} : es'[j - i0]? = some e' → VR ρ e.key e'.key → VR ρ e.val e'.val → e.born = e'.born → i0 ≤ j → FR ρ es' i0 (some (j, e)) (some (j, e'.val))
theorem FR.succ {es' : List MapEntry} {e0 : MapEntry} {i : Nat} {r s} (h : FR ρ es' (i + 1) r s) : FR ρ (e0 :: es') i r s := by
  cases h with
  | none => exact .none
  | @some j _ _ a b c d e => exact .some (by rw [show j - i = (j - (i + 1)) + 1 by omega]; simpa using a) b c d (by omega)

theorem findAsking_sound (T : TabOk P τ) {kt : TypeId} {k k' : Value} (hk : VR ρ k k') (w : World) : ∀ (es es' : List MapEntry) (i : Nat) (r), findB τ kt k es i = some r → ER ρ es es' →
    ∃ r', (Instr.findAsking kt k' es' i).run P w = .ok r' w ∧ FR ρ es' i r r' := by
  intro es
  induction es with
  | nil => intro es' i r hr he; cases he; simp [findB] at hr; subst hr; exact ⟨none, by simp [Instr.findAsking], .none⟩
  | cons e es ih =>
    intro es' i r hr he
    cases he with | cons a b c he =>
    rename_i e' es'
    simp only [findB] at hr
    split at hr
    · rename_i hq
      simp at hr; subst hr
      have := eqB_sound T _ _ _ _ _ _ _ w hq hk a
      exact ⟨some (i, e'.val), by simp [Instr.findAsking, Op.equal, this], .some (by simp) a b c (Nat.le_refl _)⟩
    · rename_i hq
      have := eqB_sound T _ _ _ _ _ _ _ w hq hk a
      obtain ⟨r', h1, h2⟩ := ih es' (i + 1) r hr he
      exact ⟨r', by simp [Instr.findAsking, Op.equal, this, h1], h2.succ⟩
    · cases hr

theorem findNow_sound {td : TypeDesc} {kt : TypeId} (hd : τ.ds.get kt = some td) {k k' : Value} (hk : VR ρ k k') : ∀ (es es' : List MapEntry) (i : Nat) (r), findB τ kt k es i = some r → ER ρ es es' →
    Instr.findNow td k' es' i = none ∨ ∃ r', Instr.findNow td k' es' i = some r' ∧ FR ρ es' i r r' := by
  intro es
  induction es with
  | nil => intro es' i r hr he; cases he; simp [findB] at hr; subst hr; exact .inr ⟨none, by simp [Instr.findNow], .none⟩
  | cons e es ih =>
    intro es' i r hr he
    cases he with | cons a b c he =>
    rename_i e' es'
    simp only [findB] at hr
    simp only [Instr.findNow]
    split at hr
    · rename_i hq
      simp at hr; subst hr
      rcases sameNow_eq (d := 9999) hd hq hk a with h | h
      · rw [h]; exact .inr ⟨_, rfl, .some (by simp) a b c (Nat.le_refl _)⟩
      · rw [h]; exact .inl rfl
    · rename_i hq
      rcases sameNow_eq (d := 9999) hd hq hk a with h | h
      · rw [h]
        rcases ih es' (i + 1) r hr he with h | ⟨r', h1, h2⟩
        · exact .inl h
        · exact .inr ⟨r', h1, h2.succ⟩
      · rw [h]; exact .inl rfl
    · cases hr

theorem keyTy_ds {d : Nat} {t : TypeId} {v : Value} (h : keyTy τ d t v = true) : ∃ td, τ.ds.get t = some td := by
  cases d with
  | zero => simp [keyTy] at h
  | succ d =>
    simp only [keyTy] at h
    cases hd : τ.ds.get t with
    | none => simp [hd] at h
    | some td => exact ⟨td, rfl⟩

theorem find_sound (T : TabOk P τ) {kt : TypeId} {k k' : Value} {td : TypeDesc} (hd : τ.ds.get kt = some td) (hk : VR ρ k k') (w : World) {es es' : List MapEntry} {r} (hr : findB τ kt k es 0 = some r) (he : ER ρ es es') :
    ∃ r', (Instr.findKey kt k' es').run P w = .ok r' w ∧ FR ρ es' 0 r r' := by
  unfold Instr.findKey
  simp only [Sem.run_bind, run_underlying (T.ds _ _ hd), Result.andThen_ok]
  rcases findNow_sound hd hk es es' 0 r hr he with h | ⟨r', h1, h2⟩
  · rw [h]; exact findAsking_sound T hk w es es' 0 r hr he
  · rw [h1]; exact ⟨r', by simp, h2⟩

theorem findU_cons {kt : TypeId} {k : Value} {p : Value × Value} {l : List (Value × Value)} {r : Option Value} (h : findU τ kt k (p :: l) = some r) :
    (eqB τ Op.maxDepth kt k p.1 = some true ∧ findU τ kt k l = some none ∧ r = some p.2) ∨ (eqB τ Op.maxDepth kt k p.1 = some false ∧ findU τ kt k l = some r) := by
  simp only [findU] at h
  split at h
  · rename_i h1 h2; simp only [Option.some.injEq] at h; exact .inl ⟨h1, h2, h.symm⟩
  · rename_i r' h1 h2; simp only [Option.some.injEq] at h; subst h; exact .inr ⟨h1, h2⟩
  · cases h
theorem findU_perm {kt : TypeId} {k : Value} {l m : List (Value × Value)} (hp : l.Perm m) : ∀ {r : Option Value}, findU τ kt k l = some r → findU τ kt k m = some r := by
  induction hp with
  | nil => intro r h; exact h
  | cons p _ ih =>
    intro r h
    rcases findU_cons h with ⟨h1, h2, rfl⟩ | ⟨h1, h2⟩
    · simp only [findU, h1, ih h2]
    · simp only [findU, h1, ih h2]
  | swap p q l =>
    intro r h
    rcases findU_cons h with ⟨h1, h2, rfl⟩ | ⟨h1, h2⟩
    · rcases findU_cons h2 with ⟨h3, h4, h5⟩ | ⟨h3, h4⟩
      · cases h5
      · simp only [findU, h1, h3, h4]
    · rcases findU_cons h2 with ⟨h3, h4, rfl⟩ | ⟨h3, h4⟩
      · simp only [findU, h1, h3, h4]
      · simp only [findU, h1, h3, h4]
  | trans _ _ ih1 ih2 => intro r h; exact ih2 (ih1 h)
theorem findU_findB {kt : TypeId} {k : Value} : ∀ (l : List MapEntry) (j : Nat) {r : Option Value}, findU τ kt k (l.map fun e => (e.key, e.val)) = some r →
    (∀ v, r = some v → ∃ i e, findB τ kt k l j = some (some (i, e)) ∧ e.val = v) ∧ (r = none → findB τ kt k l j = some none)
  | [], j, r, h => by
    simp only [List.map_nil, findU, Option.some.injEq] at h; subst h
    exact ⟨fun v hv => (by cases hv), fun _ => rfl⟩
  | e :: l, j, r, h => by
    rw [List.map_cons] at h
    rcases findU_cons h with ⟨h1, h2, rfl⟩ | ⟨h1, h2⟩
    · refine ⟨fun v hv => ⟨j, e, ?_, by cases hv; rfl⟩, fun hv => by cases hv⟩
      simp only [findB]; simp only [] at h1; rw [h1]
    · obtain ⟨a, b⟩ := findU_findB l (j + 1) h2
      have hf : findB τ kt k (e :: l) j = findB τ kt k l (j + 1) := by simp only [findB]; simp only [] at h1; rw [h1]
      rw [hf]; exact ⟨a, b⟩
theorem ER.plain_refl : ∀ {l : List MapEntry}, (∀ e ∈ l, plainV e.key = true ∧ plainV e.val = true) → ER ρ l l
  | [], _ => .nil
  | e :: l, h => .cons (VR.plain_refl (h e List.mem_cons_self).1) (VR.plain_refl (h e List.mem_cons_self).2) rfl (ER.plain_refl fun x hx => h x (List.mem_cons_of_mem _ hx))
/-- A map whose order is not known: its entries as they stand. -/
theorem umap_er {es : List (Value × Value)} {es' : Array MapEntry} (h0 : es.all (fun p => plainV p.1 && plainV p.2) = true) (hp : (es'.toList.map fun e => (e.key, e.val)).Perm es) : ER ρ es'.toList es'.toList := by
  refine ER.plain_refl fun e he => ?_
  have hm : (e.key, e.val) ∈ es := hp.subset (List.mem_map.2 ⟨e, he, rfl⟩)
  have := List.all_eq_true.1 h0 _ hm
  simpa using this

theorem lookup_sound (T : TabOk P τ) (hk : Hkt P τ ρ h w) {t : TypeId} {x ix x' ix' u : Value} {ok : Bool} (hu : lookupB τ t x ix ok h = some u) (hx : VR ρ x x') (hix : VR ρ ix ix') :
    ∃ u', (Instr.lookup t x' ix' ok).run P w = .ok u' w ∧ VR ρ u u' := by
  unfold lookupB at hu
  split at hu
  case h_2 => cases hu
  rename_i kt et hd
  replace hu := bifO hu; obtain ⟨hkey, hu⟩ := hu
  have fin : ∀ {a a' : Value} (b : Bool), VR ρ a a' → VR ρ (if ok = true then Value.tuple #[a, .bool b] else a) (if ok = true then Value.tuple #[a', .bool b] else a') := by
    intro a a' b ha
    cases ok
    · exact ha
    · exact .tuple (.cons ha (.cons (.bool b) .nil))
  obtain ⟨td, htd⟩ := keyTy_ds hkey
  simp only [] at hu
  split at hu
  · cases hx
    split at hu
    · rename_i z hz
      simp at hu; subst hu
      obtain ⟨hzr, hzp⟩ := zeroV_run T hz
      refine ⟨_, ?_, fin false (VR.plain_refl hzp)⟩
      have hck := checkKey_sound (P := P) T true w 5 10000 kt ix ix' (by omega) hkey hix
      obtain ⟨r', h1, h2⟩ := find_sound (P := P) T htd hix w (es := []) (es' := []) (r := none) rfl .nil
      cases h2
      simp only [Instr.lookup, Sem.run_bind, run_underlying (T.ds _ _ hd), Result.andThen_ok, Sem.run_pure]
      simp only [Array.isEmpty_empty, hck, Result.andThen_ok, h1, hzr, Sem.run_bind, Sem.run_pure]
    · cases hu
  · rename_i r
    split at hu
    · rename_i es ck eH
      cases hx with | @map _ pl e1 =>
      obtain ⟨es', g1, g2⟩ := hk.1.hr _ _ _ e1 eH
      have hck := checkKey_sound (P := P) T es'.isEmpty w 5 10000 kt ix ix' (by omega) hkey hix
      split at hu
      · rename_i j e hf
        simp at hu; subst hu
        obtain ⟨r', h1, h2⟩ := find_sound (P := P) T htd hix w hf g2
        cases h2 with | @some _ _ e' a b c d _ =>
        refine ⟨_, ?_, fin true c⟩
        simp only [Instr.lookup, Sem.run_bind, run_underlying (T.ds _ _ hd), Result.andThen_ok, run_getObj_map g1, Sem.run_pure, hck, h1]
      · rename_i hf
        split at hu
        · rename_i z hz
          simp at hu; subst hu
          obtain ⟨hzr, hzp⟩ := zeroV_run T hz
          obtain ⟨r', h1, h2⟩ := find_sound (P := P) T htd hix w hf g2
          cases h2
          refine ⟨_, ?_, fin false (VR.plain_refl hzp)⟩
          simp only [Instr.lookup, Sem.run_bind, run_underlying (T.ds _ _ hd), Result.andThen_ok, run_getObj_map g1, Sem.run_pure, hck, h1, hzr]
        · cases hu
      · cases hu
    · rename_i es eH
      cases hx with | @map _ pl e1 =>
      obtain ⟨g0, es', ck, g1, gp⟩ := hk.1.hr _ _ _ e1 eH
      have g2 := umap_er (ρ := ρ) g0 gp
      have hck := checkKey_sound (P := P) T es'.isEmpty w 5 10000 kt ix ix' (by omega) hkey hix
      split at hu
      · rename_i v hf
        simp at hu; subst hu
        obtain ⟨i, e, hf', rfl⟩ := (findU_findB es'.toList 0 (findU_perm gp.symm hf)).1 v rfl
        obtain ⟨r', h1, h2⟩ := find_sound (P := P) T htd hix w hf' g2
        cases h2 with | @some _ _ e' a b c d _ =>
        refine ⟨_, ?_, fin true c⟩
        simp only [Instr.lookup, Sem.run_bind, run_underlying (T.ds _ _ hd), Result.andThen_ok, run_getObj_map g1, Sem.run_pure, hck, h1]
      · rename_i hf
        split at hu
        · rename_i z hz
          simp at hu; subst hu
          obtain ⟨hzr, hzp⟩ := zeroV_run T hz
          have hf' := (findU_findB es'.toList 0 (findU_perm gp.symm hf)).2 rfl
          obtain ⟨r', h1, h2⟩ := find_sound (P := P) T htd hix w hf' g2
          cases h2
          refine ⟨_, ?_, fin false (VR.plain_refl hzp)⟩
          simp only [Instr.lookup, Sem.run_bind, run_underlying (T.ds _ _ hd), Result.andThen_ok, run_getObj_map g1, Sem.run_pure, hck, h1, hzr]
        · cases hu
      · cases hu
    · cases hu
  · cases hu

theorem ER.modAt {es es' : List MapEntry} (h : ER ρ es es') (f g : MapEntry → MapEntry) : ∀ (i : Nat), (∀ e e', es[i]? = some e → es'[i]? = some e' → VR ρ e.key e'.key → VR ρ e.val e'.val → e.born = e'.born →
    VR ρ (f e).key (g e').key ∧ VR ρ (f e).val (g e').val ∧ (f e).born = (g e').born) → ER ρ (modAt es i f) (es'.modify i g) := by
  induction h with
  | nil => intro i _; simp [Ev.modAt]; exact .nil
  | cons a b c r ih =>
    intro i H
    cases i with
    | zero =>
      obtain ⟨h1, h2, h3⟩ := H _ _ rfl rfl a b c
      simp only [Ev.modAt, List.modify_zero_cons]
      exact .cons h1 h2 h3 r
    | succ i =>
      simp only [Ev.modAt, List.modify_succ_cons]
      exact .cons a b c (ih i fun e e' h1 h2 => H e e' (by simpa using h1) (by simpa using h2))
theorem ER.push {es es' : List MapEntry} (h : ER ρ es es') {e e' : MapEntry} (h1 : VR ρ e.key e'.key) (h2 : VR ρ e.val e'.val) (h3 : e.born = e'.born) : ER ρ (es ++ [e]) (es' ++ [e']) := by
  induction h with
  | nil => exact .cons h1 h2 h3 .nil
  | cons a b c _ ih => exact .cons a b c ih
theorem ER.eraseIdx {es es' : List MapEntry} (h : ER ρ es es') : ∀ i, ER ρ (es.eraseIdx i) (es'.eraseIdx i) := by
  induction h with
  | nil => intro i; simp; exact .nil
  | cons a b c r ih =>
    intro i
    cases i with
    | zero => exact r
    | succ i => exact .cons a b c (ih i)

theorem samePlain_spec {a b : Value} (h : samePlain a b = true) : a = b ∧ plainCell a = true ∧ ∀ n, Instr.sameBits n a a = true := by
  unfold samePlain at h
  split at h
  · rename_i x y; have : x = y := by simpa using h
    subst this; exact ⟨rfl, rfl, fun n => by cases n <;> simp [Instr.sameBits]⟩
  · rename_i j x k y
    obtain ⟨h1, h2⟩ := and2 h
    have := sameK_eq h1; subst this
    have : x = y := by simpa using h2
    subst this; exact ⟨rfl, rfl, fun n => by cases n <;> simp [Instr.sameBits]⟩
  · rename_i x y
    rw [eqS_eq] at h
    have : x = y := by
      obtain ⟨⟨x⟩⟩ := x; obtain ⟨⟨y⟩⟩ := y
      simp at h; subst h; rfl
    subst this
    refine ⟨rfl, rfl, fun n => ?_⟩
    have : (x == x) = true := by rw [← eqS_bytes, eqS_eq]; simp
    cases n <;> simp [Instr.sameBits, this]
  · exact ⟨rfl, rfl, fun n => by cases n <;> simp [Instr.sameBits]⟩
  · cases h
theorem sameCells_spec : ∀ {l m : List Value}, sameCells l m = true → l = m ∧ l.all plainCell = true ∧ ∀ n, (l.zip l).all (fun (x, y) => Instr.sameBits n x y) = true
  | [], [], _ => ⟨rfl, rfl, fun _ => rfl⟩
  | [], _ :: _, h => by simp [sameCells] at h
  | _ :: _, [], h => by simp [sameCells] at h
  | a :: l, b :: m, h => by
    obtain ⟨h1, h2⟩ := and2 h
    obtain ⟨rfl, p1, p2⟩ := samePlain_spec h1
    obtain ⟨rfl, q1, q2⟩ := sameCells_spec h2
    refine ⟨rfl, by simp [p1, q1], fun n => ?_⟩
    rw [List.zip_cons_cons, List.all_cons, q2 n, Bool.and_true]
    exact p2 n
theorem sameKey_spec {a b : Value} (h : sameKey a b = true) : a = b ∧ plainV a = true ∧ Instr.sameBits 10000 a a = true := by
  unfold sameKey at h
  split at h
  · rename_i x y
    obtain ⟨x⟩ := x; obtain ⟨y⟩ := y
    obtain ⟨h1, h2, h3⟩ := sameCells_spec h
    simp only at h1; subst h1
    refine ⟨rfl, h2, ?_⟩
    have := h3 9999
    rw [show (10000 : Nat) = 9999 + 1 from rfl]
    simp only [Instr.sameBits, beq_self_eq_true, Bool.true_and]
    exact this
  · obtain ⟨h1, h2, h3⟩ := samePlain_spec h
    refine ⟨h1, ?_, h3 _⟩
    cases a <;> first
      | exact h2
      | (simp [plainCell] at h2; done)
theorem VR.plain_eq {v v' : Value} (h : VR ρ v v') (hp : plainV v = true) : v' = v := by
  cases h with
  | agg hl => rw [hl.plain_eq hp]
  | tuple hl => rw [hl.plain_eq hp]
  | iface hv => rw [hv.plainCell_eq hp]
  | _ => first
    | rfl
    | (simp [plainV, plainCell] at hp; done)

theorem key_stays {e : MapEntry} {e' : MapEntry} {k k' : Value} (hs : sameKey e.key k = true) (he : VR ρ e.key e'.key) (hk : VR ρ k k') : (Instr.keyThatStays e'.key k').run P w = .ok k' w := by
  obtain ⟨h1, h2, h3⟩ := sameKey_spec hs
  have a1 := he.plain_eq h2
  have a2 : k' = k := hk.plain_eq (by rw [← h1]; exact h2)
  rw [a1, a2, ← h1]
  simp [Instr.keyThatStays, h3]

/-- A map's entries are written anew. -/
theorem map_write (hk : Hkt P τ ρ h w) {r : Nat} {pl : Pl} {es es2 : List MapEntry} {es' es2' : Array MapEntry} {ck ck2 : Nat} (e1 : ρ r = some pl) (eH : h.t.get r = some (.map es ck)) (g1 : w.heap[pl.b]? = some (.map es' ck))
    (hE : ER ρ es2 es2'.toList) : (setObj pl.b (.map es2' ck2)).run P w = .ok () { w with heap := w.heap.setIfInBounds pl.b (.map es2' ck2) } ∧
    Hkt P τ ρ (h.put r (.map es2 ck2)) { w with heap := w.heap.setIfInBounds pl.b (.map es2' ck2) } ∧ Stp ρ w h.nx ρ { w with heap := w.heap.setIfInBounds pl.b (.map es2' ck2) } (h.put r (.map es2 ck2)).nx (h.put r (.map es2 ck2)).lo ∧
    (h.put r (.map es2 ck2)).lo ≤ h.lo := by
  have hlt := (Array.getElem?_eq_some_iff.1 g1).1
  obtain ⟨k1, k2⟩ := hk.write (w' := { w with heap := w.heap.setIfInBounds pl.b (.map es2' ck2) }) (hb' := .map es2 ck2) e1 eH rfl (by simp) (fun b hb => by show (w.heap.setIfInBounds pl.b _)[b]? = _; rw [Array.getElem?_setIfInBounds_ne (Ne.symm hb)])
    ⟨es2', by simp [hlt], hE⟩ rfl rfl rfl
  exact ⟨setObj_run g1 (by simp), k1, k2, (h.low_le r).1⟩

theorem uGoes {s : Sem Unit} {h' : Hp} {w' : World} {ρ' : Ren} (hs : s.run P w = .ok () w') (hk' : Hkt P τ ρ' h' w') (hst : Stp ρ w h.nx ρ' w' h'.nx h'.lo) (hlo : h'.lo ≤ h.lo) :
    Goes P τ ρ h w (do s; pure .skip) (.tuple #[]) h' := ⟨_, w', .tuple #[], ρ', urun hs, .inr ⟨rfl, rfl⟩, .tuple .nil, hk', hst, hlo⟩

theorem mapUpdate_sound (T : TabOk P τ) (hk : Hkt P τ ρ h w) {t : TypeId} {m k v m' k' v' : Value} {h' : Hp} (hu : mapUpdateB τ t m k v h = some h') (hm : VR ρ m m') (hkk : VR ρ k k') (hv : VR ρ v v') :
    Goes P τ ρ h w (do Instr.mapUpdate t m' k' v'; pure .skip) (.tuple #[]) h' := by
  unfold mapUpdateB at hu
  split at hu
  case h_2 => cases hu
  rename_i kt et r hd
  replace hu := bifO hu; obtain ⟨hkey, hu⟩ := hu
  obtain ⟨td, htd⟩ := keyTy_ds hkey
  cases hm with | @map _ pl e1 =>
  split at hu
  case h_2 => cases hu
  rename_i es ck eH
  obtain ⟨es', g1, g2⟩ := hk.1.hr _ _ _ e1 eH
  have hck := checkKey_sound (P := P) T false w 5 10000 kt k k' (by omega) hkey hkk
  split at hu
  · rename_i j e hf
    replace hu := bifO hu; obtain ⟨hs, hu⟩ := hu
    simp at hu; subst hu
    obtain ⟨r', h1, h2⟩ := find_sound (P := P) T htd hkk w hf g2
    cases h2 with | @some _ _ e' a b c d _ =>
    have a' : es'[j]? = some e' := by simpa using a
    have hst := key_stays (P := P) (w := w) hs b hkk
    obtain ⟨s1, s2, s3, s4⟩ := map_write (P := P) (ck2 := ck) (es2 := modAt es j fun e => { e with key := k, val := v }) (es2' := es'.modify j fun e => { e with key := k', val := v' }) hk e1 eH g1
      (by rw [Array.toList_modify]; exact g2.modAt _ _ j fun e e' _ _ _ _ hb => ⟨hkk, hv, hb⟩)
    refine uGoes ?_ s2 s3 s4
    simp only [Instr.mapUpdate, Sem.run_bind, run_underlying (T.ds _ _ hd), Result.andThen_ok, run_getObj_map g1, hck, h1, a', Option.map_some, Option.getD_some, hst, s1]
  · rename_i hf
    simp at hu; subst hu
    obtain ⟨r', h1, h2⟩ := find_sound (P := P) T htd hkk w hf g2
    cases h2
    obtain ⟨s1, s2, s3, s4⟩ := map_write (P := P) (ck2 := ck + 1) (es2 := es ++ [{ key := k, val := v, born := ck }]) (es2' := es'.push { key := k', val := v', born := ck }) hk e1 eH g1 (by rw [Array.toList_push]; exact g2.push hkk hv rfl)
    refine uGoes ?_ s2 s3 s4
    simp only [Instr.mapUpdate, Sem.run_bind, run_underlying (T.ds _ _ hd), Result.andThen_ok, run_getObj_map g1, hck, h1, s1]
  · cases hu

theorem mapEntry_sound (T : TabOk P τ) (hk : Hkt P τ ρ h w) {t : TypeId} {m k m' k' u : Value} {h' : Hp} (hu : mapEntryB τ t m k h = some (u, h')) (hm : VR ρ m m') (hkk : VR ρ k k') :
    Goes P τ ρ h w (do pure (.value (← Instr.mapEntry t m' k'))) u h' := by
  unfold mapEntryB at hu
  split at hu
  case h_2 => cases hu
  rename_i kt et r hd
  replace hu := bifO hu; obtain ⟨hkey, hu⟩ := hu
  obtain ⟨td, htd⟩ := keyTy_ds hkey
  cases hm with | @map _ pl e1 =>
  split at hu
  case h_2 => cases hu
  rename_i es ck eH
  obtain ⟨es', g1, g2⟩ := hk.1.hr _ _ _ e1 eH
  have hck := checkKey_sound (P := P) T false w 5 10000 kt k k' (by omega) hkey hkk
  split at hu
  · rename_i j e hf
    replace hu := bifO hu; obtain ⟨hs, hu⟩ := hu
    simp only [Option.some.injEq, Prod.mk.injEq] at hu; obtain ⟨rfl, rfl⟩ := hu
    obtain ⟨r', h1, h2⟩ := find_sound (P := P) T htd hkk w hf g2
    cases h2 with | @some _ _ e' a b c d _ =>
    have a' : es'[j]? = some e' := by simpa using a
    have hst := key_stays (P := P) (w := w) hs b hkk
    obtain ⟨s1, s2, s3, s4⟩ := map_write (P := P) (ck2 := ck) (es2 := modAt es j fun e => { e with key := k }) (es2' := es'.modify j fun e => { e with key := k' }) hk e1 eH g1
      (by rw [Array.toList_modify]; exact g2.modAt _ _ j fun e e' _ _ _ hv hb => ⟨hkk, hv, hb⟩)
    refine Goes.made (vrun (v := .tuple #[e'.val, goInt e'.born]) ?_) (.tuple (.cons c (.cons (by rw [d]; exact .int _ _) .nil))) s2 s3 s4
    simp only [Instr.mapEntry, Sem.run_bind, run_underlying (T.ds _ _ hd), Result.andThen_ok, run_getObj_map g1, hck, h1, a', Option.map_some, Option.getD_some, hst, s1, Sem.run_pure]
  · rename_i hf
    split at hu
    · rename_i z hz
      simp only [Option.some.injEq, Prod.mk.injEq] at hu; obtain ⟨rfl, rfl⟩ := hu
      obtain ⟨hzr, hzp⟩ := zeroV_run T hz
      obtain ⟨r', h1, h2⟩ := find_sound (P := P) T htd hkk w hf g2
      cases h2
      obtain ⟨s1, s2, s3, s4⟩ := map_write (P := P) (ck2 := ck + 1) (es2 := es ++ [{ key := k, val := z, born := ck }]) (es2' := es'.push { key := k', val := z, born := ck }) hk e1 eH g1 (by rw [Array.toList_push]; exact g2.push hkk (VR.plain_refl hzp) rfl)
      refine Goes.made (vrun (v := .tuple #[z, goInt ck]) ?_) (.tuple (.cons (VR.plain_refl hzp) (.cons (.int _ _) .nil))) s2 s3 s4
      simp only [Instr.mapEntry, Sem.run_bind, run_underlying (T.ds _ _ hd), Result.andThen_ok, run_getObj_map g1, hck, h1, hzr, s1, Sem.run_pure]
    · cases hu
  · cases hu

theorem findBorn_sound {es es' : List MapEntry} (he : ER ρ es es') (n : Nat) : ∀ {i j : Nat}, findBorn n es i = some j → i ≤ j ∧ es'.findIdx? (fun e => (e.born : Int) == (n : Int)) = some (j - i) := by
  induction he with
  | nil => intro i j h; simp [findBorn] at h
  | cons a b c r ih =>
    rename_i e e' l l'
    intro i j h
    simp only [findBorn] at h
    rw [List.findIdx?_cons]
    cases hb : Nat.beq e.born n with
    | true =>
      simp only [hb, cond_true, Option.some.injEq] at h; subst h
      have hb := Nat.eq_of_beq_eq_true hb
      have : ((e'.born : Int) == (n : Int)) = true := by rw [← c, hb]; simp
      simp [this]
    | false =>
      simp only [hb, cond_false] at h
      obtain ⟨h1, h2⟩ := ih h
      have hne : e.born ≠ n := fun hh => by rw [hh] at hb; simp at hb
      have : ((e'.born : Int) == (n : Int)) = false := by rw [← c]; simp; omega
      simp only [this, Bool.false_eq_true, if_false, h2, Option.map_some]
      exact ⟨by omega, by congr 1; omega⟩

theorem entryStore_sound (hk : Hkt P τ ρ h w) {t : TypeId} {m s v m' s' v' : Value} {h' : Hp} (hu : entryStoreB m s v h = some h') (hm : VR ρ m m') (hs : VR ρ s s') (hv : VR ρ v v') :
    Goes P τ ρ h w (do Instr.entryStore t m' s' v'; pure .skip) (.tuple #[]) h' := by
  unfold entryStoreB at hu
  split at hu
  case h_2 => cases hu
  rename_i r n hn
  cases hm with | @map _ pl e1 =>
  obtain ⟨kk, rfl⟩ := asIdx_VR hn hs
  split at hu
  case h_2 => cases hu
  rename_i es ck eH
  obtain ⟨es', g1, g2⟩ := hk.1.hr _ _ _ e1 eH
  split at hu
  case h_2 => cases hu
  rename_i i hi
  simp at hu; subst hu
  obtain ⟨_, hi⟩ := findBorn_sound g2 n hi
  have hi' : es'.findIdx? (fun e => (e.born : Int) == (n : Int)) = some i := by obtain ⟨l⟩ := es'; simpa using hi
  obtain ⟨s1, s2, s3, s4⟩ := map_write (P := P) (ck2 := ck) (es2 := modAt es i fun e => { e with val := v }) (es2' := es'.modify i fun e => { e with val := v' }) hk e1 eH g1
    (by rw [Array.toList_modify]; exact g2.modAt _ _ i fun e e' _ _ hkk _ hb => ⟨hkk, hv, hb⟩)
  refine uGoes ?_ s2 s3 s4
  simp only [Instr.entryStore, Sem.run_bind, Result.andThen_ok, run_getObj_map g1, asInt, asIntOf, Sem.run_pure, hi', s1]

theorem delete_sound (T : TabOk P τ) (hk : Hkt P τ ρ h w) {ts : List TypeId} {vs vs' : List Value} {h' : Hp} (ty : TypeId) (hu : deleteB τ ts vs h = some h') (hv : LR ρ vs vs') :
    Goes P τ ρ h w (do pure (.value (← Builtin.delete_ ⟨ts⟩ ty ⟨vs'⟩))) (.tuple #[]) h' := by
  unfold deleteB at hu
  split at hu
  case h_2 => cases hu
  rename_i t ts m k
  cases hv with | cons hm hv =>
  cases hv with | cons hkk hv =>
  cases hv
  rename_i m' k'
  split at hu
  · rename_i kt et hd
    replace hu := bifO hu; obtain ⟨hkey, hu⟩ := hu
    simp at hu; subst hu
    cases hm
    have hck := checkKey_sound (P := P) T true w 5 10000 kt k k' (by omega) hkey hkk
    exact Goes.pure hk (vrun (v := .tuple #[]) (by simp [Builtin.delete_, run_underlying (T.ds _ _ hd), hck])) (.tuple .nil)
  · rename_i kt et r hd
    replace hu := bifO hu; obtain ⟨hkey, hu⟩ := hu
    obtain ⟨td, htd⟩ := keyTy_ds hkey
    cases hm with | @map _ pl e1 =>
    split at hu
    case h_2 => cases hu
    rename_i es ck eH
    obtain ⟨es', g1, g2⟩ := hk.1.hr _ _ _ e1 eH
    have hck := checkKey_sound (P := P) T es'.isEmpty w 5 10000 kt k k' (by omega) hkey hkk
    split at hu
    · rename_i j e hf
      simp at hu; subst hu
      obtain ⟨r', h1, h2⟩ := find_sound (P := P) T htd hkk w hf g2
      cases h2 with | @some _ _ e' a b c d _ =>
      obtain ⟨s1, s2, s3, s4⟩ := map_write (P := P) (ck2 := ck) (es2 := es.eraseIdx j) (es2' := es'.eraseIdxIfInBounds j) hk e1 eH g1 (by
        rw [Array.eraseIdxIfInBounds]
        split
        · rw [Array.toList_eraseIdx]; exact g2.eraseIdx j
        · have : es.length ≤ j := by have := g2.length; simp at this; omega
          rw [List.eraseIdx_of_length_le this]; exact g2)
      refine Goes.made (vrun (v := .tuple #[]) ?_) (.tuple .nil) s2 s3 s4
      simp only [Builtin.delete_, List.getElem?_toArray, List.getElem?_cons_zero, List.getElem?_cons_succ, Sem.run_bind, run_underlying (T.ds _ _ hd), Result.andThen_ok, run_getObj_map g1, hck, h1, s1, Sem.run_pure]
    · rename_i hf
      simp at hu; subst hu
      obtain ⟨r', h1, h2⟩ := find_sound (P := P) T htd hkk w hf g2
      cases h2
      obtain ⟨s1, s2, s3, s4⟩ := map_write (P := P) (ck2 := ck) (es2 := es) (es2' := es') hk e1 eH g1 g2
      refine Goes.made (vrun (v := .tuple #[]) ?_) (.tuple .nil) s2 s3 s4
      simp only [Builtin.delete_, List.getElem?_toArray, List.getElem?_cons_zero, List.getElem?_cons_succ, Sem.run_bind, run_underlying (T.ds _ _ hd), Result.andThen_ok, run_getObj_map g1, hck, h1, s1, Sem.run_pure]
    · cases hu
  · cases hu
end
end Go.Ev
end
