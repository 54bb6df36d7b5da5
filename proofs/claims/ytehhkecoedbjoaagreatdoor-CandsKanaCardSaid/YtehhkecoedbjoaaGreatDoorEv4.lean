/-
  The evaluator of closed runs (a part): EvS7, EvS8.
-/
import Derived.Test.YtehhkecoedbjoaaGreatDoorEv3
import Derived.Laws.BytesString
import Derived.Laws.Strings
import Derived.Laws.MakeOwn
set_option linter.unusedVariables false
set_option linter.unusedSimpArgs false
set_option linter.unusedSectionVars false
section
/-
  Conversions, and what makes rows.
-/
namespace Go.Ev
section
variable {P : Program} {τ : Tab} {ρ : Ren} {h : Hp} {w : World}

theorem vrun {s : Sem Value} {v : Value} {w' : World} (h : s.run P w = .ok v w') : (do pure (.value (← s)) : Sem Next).run P w = .ok (.value v) w' := by
  simp [h]
theorem urun {s : Sem Unit} {w' : World} (h : s.run P w = .ok () w') : (do s; pure .skip : Sem Next).run P w = .ok .skip w' := by
  simp [h]

theorem Hkt.drew (hk : Hkt P τ ρ h w) : Hkt P τ ρ h w.drew :=
  ⟨⟨hk.1.fresh, fun id pl hb e eH => (hk.1.hr id pl hb e eH).mono (Ren.le_refl _) rfl, hk.1.bnd, hk.1.ord, hk.1.glob⟩, hk.2⟩
theorem Stp.undrew {ρ' : Ren} {w' : World} {nx nx' : Nat} {lo : WS} (h : Stp ρ w.drew nx ρ' w' nx' lo) : Stp ρ w nx ρ' w' nx' lo :=
  ⟨h.ext, h.size, h.chg, h.new, h.nx, h.os, h.out, h.tape, Nat.le_trans (Nat.le_succ _) h.drawn⟩

theorem run_appendCap (need old : Nat) (e : TypeId) (w : World) : ∃ c, need ≤ c ∧ (choose (.appendCap need old e)).run P w = .ok c w.drew := by
  refine ⟨(Question.appendCap need old e).cut (w.tape w.drawn (.appendCap need old e)), ?_, ?_⟩
  · simp only [Question.cut]; omega
  · simp only [run_choose, Question.forced, Bool.false_eq_true, if_false]; rfl

theorem freeze_alloc (w : World) (C : Array Value) (e : TypeId) (n : Nat) :
    (w.alloc (.cells C e)).freeze ⟨w.heap.size, n, none⟩ 1 = w.alloc (.cells C e (n, n + 1)) := by
  unfold World.freeze World.alloc
  simp only [Nat.one_ne_zero, if_false]
  congr 1
  apply Array.ext_getElem?
  intro i
  rw [Array.getElem?_modify]
  by_cases hi : w.heap.size = i
  · subst hi; simp
  · rw [if_neg hi]
    simp only [Array.getElem?_push]
    rw [if_neg (Ne.symm hi), if_neg (Ne.symm hi)]

theorem LR.bytes (bs : List UInt8) : LR ρ (bs.map fun b => .int .u8 b.toNat) (bs.map fun b => .int .u8 b.toNat) := by
  induction bs with
  | nil => exact .nil
  | cons b bs ih => exact .cons (.int _ _) ih

theorem unitT_spec (T : TabOk P τ) {e : TypeId} (hu : unitT τ e = true) : ∃ i, P.info? e = some i ∧ i.size = 1 := by
  unfold unitT at hu
  split at hu
  · rename_i i hi; exact ⟨i, T.inf _ _ hi, Nat.eq_of_beq_eq_true hu⟩
  · cases hu

theorem byteList_spec : ∀ {l : List Value} {bs : List UInt8}, byteList l = some bs → ∃ ns : List Int, l = ns.map (Value.int .u8) ∧ bs = ns.map fun n => UInt8.ofNat n.toNat
  | [], bs, h => by simp [byteList] at h; exact ⟨[], rfl, h.symm ▸ rfl⟩
  | v :: l, bs, h => by
    unfold byteList at h
    split at h
    · rename_i heq; cases heq
    · rename_i n l' heq
      cases heq
      split at h
      · rename_i bs' hb
        simp at h; subst h
        obtain ⟨ns, h1, h2⟩ := byteList_spec hb
        exact ⟨n :: ns, by simp [h1], by simp [h2]⟩
      · cases h
    · cases h
theorem LR.ints_eq {k : IntKind} : ∀ {ns : List Int} {l' : List Value}, LR ρ (ns.map (Value.int k)) l' → l' = ns.map (Value.int k)
  | [], _, h => by cases h; rfl
  | n :: ns, _, h => by
    cases h with
    | cons a r => cases a; rw [LR.ints_eq r]; rfl
theorem foldl_push (ns : List Int) : ∀ s : ByteArray, ns.foldl (fun (r : ByteArray) n => r.push (UInt8.ofNat n.toNat)) s = ⟨⟨s.data.toList ++ ns.map fun n => UInt8.ofNat n.toNat⟩⟩ := by
  induction ns with
  | nil => intro s; simp
  | cons n ns ih =>
    intro s
    rw [List.foldl_cons, ih]
    simp [ByteArray.push]

theorem runeBytes_spec : ∀ {l : List Value} {bs : List UInt8}, runeBytes l = some bs → ∃ ns : List Int, l = ns.map (Value.int .i32) ∧ bs = ns.flatMap fun n => (Utf8.encode n).data.toList
  | [], bs, h => by simp [runeBytes] at h; exact ⟨[], rfl, h.symm ▸ rfl⟩
  | v :: l, bs, h => by
    unfold runeBytes at h
    split at h
    · rename_i heq; cases heq
    · rename_i n l' heq
      cases heq
      split at h
      · rename_i bs' hb
        simp at h; subst h
        obtain ⟨ns, h1, h2⟩ := runeBytes_spec hb
        exact ⟨n :: ns, by simp [h1], by simp [h2]⟩
      · cases h
    · cases h
theorem foldl_runes (ns : List Int) : ∀ s : ByteArray, ns.foldl (fun (r : ByteArray) n => r ++ Utf8.encode n) s = ⟨⟨s.data.toList ++ ns.flatMap fun n => (Utf8.encode n).data.toList⟩⟩ := by
  induction ns with
  | nil => intro s; simp
  | cons n ns ih =>
    intro s
    rw [List.foldl_cons, ih]
    simp [ByteArray.data_append]
theorem run_forIn_runes (f : Value → ByteArray → Sem (ForInStep ByteArray)) (hf : ∀ (n : Int) (r : ByteArray), (f (.int .i32 n) r).run P w = .ok (.yield (r ++ Utf8.encode n)) w) :
    ∀ (ns : List Int) (s : ByteArray), (forIn (ns.map (Value.int .i32)) s f).run P w = .ok (ns.foldl (fun r n => r ++ Utf8.encode n) s) w := by
  intro ns
  induction ns with
  | nil => intro s; simp
  | cons n ns ih =>
    intro s
    simp only [List.map_cons, List.forIn_cons, Sem.run_bind, hf, Result.andThen, List.foldl_cons]
    exact ih _
theorem run_runesToString (a : Addr) (len cap : Nat) (ns : List Int) (h : (loadCells a len).run P w = .ok (ns.map (Value.int .i32)).toArray w) :
    (Conv.runesToString (.slice (some a) len cap)).run P w = .ok (.string (ns.foldl (fun r n => r ++ Utf8.encode n) ByteArray.empty)) w := by
  unfold Conv.runesToString
  simp only [Sem.run_bind, h, Result.andThen, List.forIn_toArray]
  rw [run_forIn_runes _ (by intro n r; simp)]
  simp

theorem runesL_plain : ∀ (b : Nat) (l : List UInt8), (runesL b l).all plainCell = true
  | 0, _ => rfl
  | _ + 1, [] => rfl
  | n + 1, b :: l => by simp [runesL, plainCell, runesL_plain n]
theorem runesFrom_plain (s : ByteArray) : ∀ (b i : Nat) (acc : Array Value), acc.toList.all plainCell = true → (Conv.runesFrom s b i acc).toList.all plainCell = true := by
  intro b
  induction b with
  | zero => intro i acc ha; simpa [Conv.runesFrom] using ha
  | succ b ih =>
    intro i acc ha
    simp only [Conv.runesFrom]
    split
    · exact ih _ _ (by simp [ha, plainCell])
    · exact ha
theorem runesFrom_size (s : ByteArray) : ∀ (b i : Nat) (acc : Array Value), (Conv.runesFrom s b i acc).size ≤ acc.size + b := by
  intro b
  induction b with
  | zero => intro i acc; simp [Conv.runesFrom]
  | succ b ih =>
    intro i acc
    simp only [Conv.runesFrom]
    split
    · have := ih (i + (Utf8.decode s i).2) (acc.push (.int .i32 (Int.ofNat (Utf8.decode s i).1)))
      simp only [Array.size_push] at this; omega
    · omega

/-- The result is new memory: the place has been made in world w0, whose heap is the call's. -/
theorem Goes.made {s : Sem Next} {v v' : Value} {h' : Hp} {w' : World} {ρ' : Ren} (hs : s.run P w = .ok (.value v') w') (hv : VR ρ' v v') (hk' : Hkt P τ ρ' h' w')
    (hst : Stp ρ w h.nx ρ' w' h'.nx h'.lo) (hlo : h'.lo ≤ h.lo) : Goes P τ ρ h w s v h' := ⟨_, w', v', ρ', hs, .inl rfl, hv, hk', hst, hlo⟩

theorem slice_new {ρ' : Ren} {id : Nat} {pl : Pl} (e : ρ' id = some pl) (ho : pl.o = 0) (n c : Nat) (hc : c = n + pl.s) : VR ρ' (.slice (some ⟨id, 0, none⟩) n n) (.slice (some ⟨pl.b, 0, none⟩) n c) := by
  have := VR.slice (ρ := ρ') (id := id) (off := 0) (sp := none) (len := n) (cap := n) (o' := 0) e (fun _ => by omega)
  rw [hc]; simpa [slk] using this

theorem run_stringToBytes (e : TypeId) (s : ByteArray) : ∃ c, s.size ≤ c ∧ (Conv.stringToBytes e s).run P w =
    .ok (.slice (some ⟨w.heap.size, 0, none⟩) s.size c) (w.drew.alloc (.cells ⟨(s.data.toList.map fun b : UInt8 => Value.int .u8 b.toNat) ++ List.replicate (c - s.size) (Value.int .u8 0)⟩ e (c, c + 1))) := by
  obtain ⟨c, hc, hr⟩ := run_appendCap (P := P) s.size 0 e w
  refine ⟨c, hc, ?_⟩
  have hC : (s.data.map (fun b => Value.int .u8 b.toNat) ++ Array.replicate (c - s.size) (Value.int .u8 0)) = ⟨(s.data.toList.map fun b : UInt8 => Value.int .u8 b.toNat) ++ List.replicate (c - s.size) (Value.int .u8 0)⟩ := by
    apply Array.ext'; simp
  have hsz : ((s.data.toList.map fun b : UInt8 => Value.int .u8 b.toNat) ++ List.replicate (c - s.size) (Value.int .u8 0)).length = c := by
    simp only [List.length_append, List.length_map, List.length_replicate, Array.length_toList]
    have : s.data.size = s.size := rfl
    omega
  simp only [Conv.stringToBytes, Sem.run_bind, hr, Result.andThen_ok, newRow, run_newObj, Sem.run_pure, markStringish, run_shape, World.size_drew]
  rw [hC]
  have hsh : (w.drew.alloc (.cells ⟨(s.data.toList.map fun b : UInt8 => Value.int .u8 b.toNat) ++ List.replicate (c - s.size) (Value.int .u8 0)⟩ e)).shape? w.heap.size = some (e, c) := by
    have := getElem?_alloc_new w.drew (.cells ⟨(s.data.toList.map fun b : UInt8 => Value.int .u8 b.toNat) ++ List.replicate (c - s.size) (Value.int .u8 0)⟩ e)
    simp only [World.size_drew] at this
    simp only [World.shape?, this]
    simp only [Option.some.injEq, Prod.mk.injEq, true_and]
    exact hsz
  change ((match (w.drew.alloc (.cells ⟨(s.data.toList.map fun b : UInt8 => Value.int .u8 b.toNat) ++ List.replicate (c - s.size) (Value.int .u8 0)⟩ e)).shape? w.heap.size with
    | some (_, n) => freeze ⟨w.heap.size, n, none⟩ 1
    | _ => pure () : Sem Unit).run P (w.drew.alloc (.cells ⟨(s.data.toList.map fun b : UInt8 => Value.int .u8 b.toNat) ++ List.replicate (c - s.size) (Value.int .u8 0)⟩ e))).andThen _ = _
  rw [hsh]
  simp only [run_freeze, Result.andThen_ok]
  have := freeze_alloc w.drew ⟨(s.data.toList.map fun b : UInt8 => Value.int .u8 b.toNat) ++ List.replicate (c - s.size) (Value.int .u8 0)⟩ e c
  simp only [World.size_drew] at this
  rw [this]

theorem run_stringToRunes (e : TypeId) (s : ByteArray) : ∃ c, (Conv.runesFrom s s.size 0 #[]).size ≤ c ∧ (Conv.stringToRunes e s).run P w =
    .ok (.slice (some ⟨w.heap.size, 0, none⟩) (Conv.runesFrom s s.size 0 #[]).size c) (w.drew.alloc (.cells ⟨(Conv.runesFrom s s.size 0 #[]).toList ++ List.replicate (c - (Conv.runesFrom s s.size 0 #[]).size) (Value.int .i32 0)⟩ e)) := by
  obtain ⟨c, hc, hr⟩ := run_appendCap (P := P) (Conv.runesFrom s s.size 0 #[]).size 0 e w
  refine ⟨c, hc, ?_⟩
  have hC : (Conv.runesFrom s s.size 0 #[] ++ Array.replicate (c - (Conv.runesFrom s s.size 0 #[]).size) (Value.int .i32 0)) = ⟨(Conv.runesFrom s s.size 0 #[]).toList ++ List.replicate (c - (Conv.runesFrom s s.size 0 #[]).size) (Value.int .i32 0)⟩ := by
    apply Array.ext'; simp
  simp only [Conv.stringToRunes, Sem.run_bind, hr, Result.andThen_ok, newRow, run_newObj, Sem.run_pure, World.size_drew]
  rw [hC]
  rfl

theorem liesAt_own {u : TypeId} {sz off n : Nat} (hs : P.cellsOf u = sz) (hz : sz ≠ 0) (h0 : off % sz = 0) (hn : off + sz ≤ n) : liesAt P P.depth u (n / sz) off u 1 = true := by
  have hd : P.depth = (2 * (P.types.size + Made.depth) + 1) + 1 := rfl
  rw [hd]
  simp only [liesAt, Bool.or_eq_true]
  refine .inl ?_
  rw [hd]
  have h1 : off / sz + 1 ≤ n / sz := by
    have h2 : off / sz * sz = off := Nat.div_mul_cancel (Nat.dvd_of_mod_eq_zero h0)
    rw [Nat.le_div_iff_mul_le (by omega), Nat.add_mul, Nat.one_mul, h2]; exact hn
  simp only [rowAt, hs, hz, if_false, h0, sameLayout, beq_self_eq_true, Bool.true_or, Bool.and_true, Bool.true_and, h1, decide_true]

theorem conv_sound (T : TabOk P τ) (hk : Hkt P τ ρ h w) {src dst : TypeId} {x x' u : Value} {h' : Hp} (hu : convB τ src dst x h = some (u, h')) (hx : VR ρ x x') :
    Goes P τ ρ h w (do pure (.value (← convert src dst x'))) u h' := by
  unfold convB at hu
  split at hu
  case h_2 => cases hu
  rename_i sd dd hs hd
  have us := run_underlying (T.ds _ _ hs)
  have ud := run_underlying (T.ds _ _ hd)
  split at hu
  · -- int to int
    simp at hu; obtain ⟨rfl, rfl⟩ := hu
    cases hx
    refine Goes.pure hk (vrun (v := .int _ _) ?_) (.int _ _)
    simp [convert, us, ud, Conv.intToInt]
  · simp at hu; obtain ⟨rfl, rfl⟩ := hu
    cases hx
    refine Goes.pure hk (vrun (v := .string _) ?_) (.string _)
    simp [convert, us, ud, Conv.intToString]
  · simp at hu; obtain ⟨rfl, rfl⟩ := hu
    cases hx
    refine Goes.pure hk (vrun (v := .string _) ?_) (.string _)
    simp [convert, us, ud]
  · -- a string to bytes or runes
    rename_i e s
    obtain ⟨hun, hu⟩ := bifO hu
    obtain ⟨i, hi, hi1⟩ := unitT_spec T hun
    cases hx
    split at hu
    · rename_i he
      simp only [Option.some.injEq, Prod.mk.injEq] at hu; obtain ⟨rfl, rfl⟩ := hu
      obtain ⟨c, hc, hr⟩ := run_stringToBytes (P := P) (w := w) e s
      have hlen : (s.data.toList.map fun b : UInt8 => Value.int .u8 b.toNat).length = s.size := by simp
      obtain ⟨k1, k2⟩ := hk.drew.alloc (.cells ⟨(s.data.toList.map fun b : UInt8 => Value.int .u8 b.toNat) ++ List.replicate (c - s.size) (Value.int .u8 0)⟩ e (c, c + 1)) _ (c - s.size)
        (BR.row (P := P) (LR.bytes s.data.toList) (c - s.size) (fun j hj => by rw [hi] at hj; cases hj; simp [hi1]) 1 0 (c, c + 1) (.inr (.inl ⟨rfl, rfl, by rw [hlen]; simp; omega⟩)) false (by simp) w.drew)
      rw [hlen] at k1 k2
      refine Goes.made (vrun ?_) (slice_new (Ren.upd_same _ _) rfl s.size c (by simp; omega)) k1 k2.undrew (WS.le_refl _)
      simp only [convert, Sem.run_bind, us, ud, Result.andThen_ok, run_underlying (T.ds _ _ he)]
      exact hr
    · rename_i he
      have hru : (Conv.runesFrom s s.size 0 #[]).toList = runesL s.size s.data.toList := by
        rw [runesL_eq]; simp
      rw [← hru] at hu
      simp only [Option.some.injEq, Prod.mk.injEq] at hu; obtain ⟨rfl, rfl⟩ := hu
      obtain ⟨c, hc, hr⟩ := run_stringToRunes (P := P) (w := w) e s
      have hlen : (Conv.runesFrom s s.size 0 #[]).toList.length = (Conv.runesFrom s s.size 0 #[]).size := by simp
      obtain ⟨k1, k2⟩ := hk.drew.alloc (.cells ⟨(Conv.runesFrom s s.size 0 #[]).toList ++ List.replicate (c - (Conv.runesFrom s s.size 0 #[]).size) (Value.int .i32 0)⟩ e) _ (c - (Conv.runesFrom s s.size 0 #[]).size)
        (BR.row (P := P) (LR.plain_refl (runesFrom_plain s _ _ _ (by simp))) (c - (Conv.runesFrom s s.size 0 #[]).size) (fun j hj => by rw [hi] at hj; cases hj; simp [hi1]) 0 0 (0, 0) (.inl rfl) false (by simp) w.drew)
      refine Goes.made (vrun ?_) (slice_new (Ren.upd_same _ _) rfl _ c (by simp; omega)) k1 k2.undrew (WS.le_refl _)
      simp only [convert, Sem.run_bind, us, ud, Result.andThen_ok, run_underlying (T.ds _ _ he)]
      rw [hlen]
      exact hr
    · cases hu
  · -- a nil slice to a string
    rename_i e _ _
    split at hu
    · rename_i he
      simp only [Option.some.injEq, Prod.mk.injEq] at hu; obtain ⟨rfl, rfl⟩ := hu
      cases hx
      refine Goes.pure hk (vrun (v := .string _) ?_) (.string _)
      simp [convert, us, ud, run_underlying (T.ds _ _ he), Conv.bytesToString]
    · rename_i he
      simp only [Option.some.injEq, Prod.mk.injEq] at hu; obtain ⟨rfl, rfl⟩ := hu
      cases hx
      refine Goes.pure hk (vrun (v := .string _) ?_) (.string _)
      simp [convert, us, ud, run_underlying (T.ds _ _ he), Conv.runesToString]
    · cases hu
  · -- a slice to a string
    rename_i e a len cap
    cases hx with | @slice id off sp _ _ pl o' e1 e2 =>
    have load : ∀ {c n el lo hi xx l}, h.t.get id = some (.cells c n el lo hi xx) → gather c len off = some l → ∃ l', LR ρ l l' ∧ (loadCells ⟨pl.b, o', none⟩ len).run P w = .ok ⟨l'⟩ w := by
      intro c n el lo hi xx l eH hg
      obtain ⟨l', h1, h2, _⟩ := gather_run (hk.1.hr _ _ _ e1 eH) hg
      refine ⟨l', h1, ?_⟩
      by_cases hz : len = 0
      · subst hz
        have : l' = [] := by
          have := (gather_get _ _ _ _ hg).1
          have h3 := h1.length
          cases l' with | nil => rfl | cons _ _ => simp at h3; omega
        subst this; rfl
      · rw [e2 (by omega)]; exact h2
    split at hu
    · rename_i c n el lo hi xx he eH
      split at hu
      · rename_i l hg
        split at hu
        · rename_i bs hb
          simp only [Option.some.injEq, Prod.mk.injEq] at hu; obtain ⟨rfl, rfl⟩ := hu
          obtain ⟨l', h1, h2⟩ := load eH hg
          obtain ⟨ns, rfl, rfl⟩ := byteList_spec hb
          have := h1.ints_eq; subst this
          refine Goes.pure hk (vrun (v := .string _) ?_) (.string _)
          have hr := run_bytesToString (P := P) w ⟨pl.b, o', none⟩ len (cap + slk sp pl) ns h2
          rw [foldl_push] at hr
          simpa [convert, us, ud, run_underlying (T.ds _ _ he)] using hr
        · cases hu
      · cases hu
    · rename_i c n el lo hi xx he eH
      split at hu
      · rename_i l hg
        split at hu
        · rename_i bs hb
          simp only [Option.some.injEq, Prod.mk.injEq] at hu; obtain ⟨rfl, rfl⟩ := hu
          obtain ⟨l', h1, h2⟩ := load eH hg
          obtain ⟨ns, rfl, rfl⟩ := runeBytes_spec hb
          have := h1.ints_eq; subst this
          refine Goes.pure hk (vrun (v := .string _) ?_) (.string _)
          have hr := run_runesToString (P := P) (w := w) ⟨pl.b, o', none⟩ len (cap + slk sp pl) ns h2
          rw [foldl_runes] at hr
          simpa [convert, us, ud, run_underlying (T.ds _ _ he)] using hr
        · cases hu
      · cases hu
    · cases hu
  · -- the bytes are marked as a string's
    rename_i e0 e a len cap
    obtain ⟨hsd, hu⟩ := bifO hu
    split at hu
    · rename_i c n el xx he eH
      simp only [Option.some.injEq, Prod.mk.injEq] at hu; obtain ⟨rfl, rfl⟩ := hu
      cases hx with | @slice id off sp _ _ pl o' e1 e2 =>
      obtain ⟨C, fz, g1, g2, g3, g4, g5, g6⟩ := hk.1.hr _ _ _ e1 eH
      have hlt := (Array.getElem?_eq_some_iff.1 g1).1
      have hfz : fz.1 = fz.2 := by
        rcases g5 with h | ⟨h, _⟩ | ⟨h1, h2, h3⟩
        · exact h
        · cases h
        · omega
      obtain ⟨k1, k2⟩ := hk.write (w' := w.freeze ⟨pl.b, C.size, none⟩ 1) e1 eH rfl (by simp [World.freeze]) (fun b hb => by
          show (if (1 : Nat) = 0 then w else _).heap[b]? = _
          simp only [Nat.one_ne_zero, if_false]
          rw [Array.getElem?_modify, if_neg (Ne.symm hb)]) (hb' := .cells c n el 1 0 xx)
        ⟨C, (C.size, C.size + 1), by
          show (if (1 : Nat) = 0 then w else _).heap[pl.b]? = _
          simp only [Nat.one_ne_zero, if_false]
          rw [Array.getElem?_modify, if_pos rfl, g1]
          obtain ⟨f1, f2⟩ := fz
          simp only at hfz
          simp [hfz], g2, g3, g4, .inr (.inl ⟨rfl, rfl, Nat.le_refl _⟩), g6⟩ rfl rfl rfl
      have hb := Nat.eq_of_beq_eq_true hsd
      subst hb
      cases hs.symm.trans hd
      refine Goes.made (vrun (v := .slice (some ⟨pl.b, o', none⟩) len (cap + slk sp pl)) ?_) (.slice e1 e2) k1 k2 (h.low_le id).1
      have hsh : w.shape? pl.b = some (el, C.size) := by simp [World.shape?, g1]
      simp [convert, us, ud, run_underlying (T.ds _ _ he), markStringish, hsh]
    · cases hu
  · -- a pointer to an unsafe pointer
    rename_i t id off
    split at hu
    · rename_i i c n el lo hi xx hi' eH
      obtain ⟨hc, hu⟩ := bifO hu
      obtain ⟨c1, c2⟩ := and2 hc
      simp only [Option.some.injEq, Prod.mk.injEq] at hu; obtain ⟨rfl, rfl⟩ := hu
      cases hx with | @ptr _ _ pl e1 =>
      obtain ⟨C, fz, g1, g2, g3, g4, g5, g6⟩ := hk.1.hr _ _ _ e1 eH
      refine Goes.pure hk (vrun (v := .pointer _) ?_) (by have := VR.ptr (off := off) e1; exact this)
      have hsh : w.shape? pl.b = some (el, C.size) := by simp [World.shape?, g1]
      have hz : i.size ≠ 0 := by intro hh; rw [hh] at c1; simp at c1
      have hlt : off < n := by simpa [Nat.blt_eq] using c2
      have hge : ¬ (C.size ≤ pl.o + off) := by omega
      simp [convert, Conv.unsafePointer, Conv.seenAt, viewAt, cellsIn, us, ud, run_sizeOf (T.inf _ _ hi'), hsh, hz, hge]
    · cases hu
  · -- and back
    rename_i u id off
    split at hu
    · rename_i i c n e lo hi' hi eH
      obtain ⟨hc, hu⟩ := bifO hu
      obtain ⟨hc, c4⟩ := and2 hc
      obtain ⟨hc, c3⟩ := and2 hc
      obtain ⟨c1, c2⟩ := and2 hc
      simp only [Option.some.injEq, Prod.mk.injEq] at hu; obtain ⟨rfl, rfl⟩ := hu
      cases hx with | @ptr _ _ pl e1 =>
      have c1 := Nat.eq_of_beq_eq_true c1
      subst c1
      obtain ⟨C, fz, g1, g2, g3, g4, g5, g6⟩ := hk.1.hr _ _ _ e1 eH
      obtain ⟨g6, g7⟩ := g6 rfl
      refine Goes.pure hk (vrun (v := .pointer _) ?_) (by have := VR.ptr (off := off) e1; exact this)
      have hsh : w.shape? pl.b = some (u, C.size) := by simp [World.shape?, g1]
      have hz : i.size ≠ 0 := by intro hh; rw [hh] at c2; simp at c2
      have c3 := Nat.eq_of_beq_eq_true c3
      have c4 := Nat.le_of_ble_eq_true c4
      have hv : (variablesAt ⟨pl.b, pl.o + off, none⟩ u 1).run P w = .ok true w := by
        have := T.inf _ _ hi
        simp only [variablesAt, Sem.run_bind, run_program, run_shape, hsh, Result.andThen_ok, Sem.run_pure]
        congr 1
        have hco : P.cellsOf u = i.size := by simp [Program.cellsOf, this]
        rw [g6, Nat.zero_add, hco]
        exact liesAt_own hco hz c3 (by rw [g7]; exact c4)
      simp [convert, Conv.unsafePointer, Conv.seenAt, viewAt, us, ud, run_sizeOf (T.inf _ _ hi), hsh, hz, hv]
    · cases hu
  · cases hu
end
end Go.Ev
end

section
/-
  Slices made, appended to, copied.
-/
namespace Go.Ev
section
variable {P : Program} {τ : Tab} {ρ : Ren} {h : Hp} {w : World}

theorem arrPtr_sound (T : TabOk P τ) {t : TypeId} {x x' u : Value} (hu : arrPtrB τ t x = some u) (hx : VR ρ x x') (w : World) :
    ∃ u', (Instr.arrayAt t x').run P w = .ok u' w ∧ VR ρ u u' := by
  unfold arrPtrB at hu
  split at hu
  · rename_i _ _ n e a len cap hd
    replace hu := bifO hu; obtain ⟨hc, hu⟩ := hu
    obtain ⟨c1, c2⟩ := and2 hc
    have c1 := Nat.le_of_ble_eq_true c1
    have c2 : 0 < n := by simpa [Nat.blt_eq] using c2
    cases hu
    cases hx with | @slice id off sp _ _ pl o' e1 e2 =>
    refine ⟨.pointer (some ⟨pl.b, o', none⟩), ?_, ?_⟩
    · have hlt : ¬ len < n := by omega
      simp [Instr.arrayAt, run_underlying (T.ds _ _ hd), hlt]
    · rw [e2 (by omega)]; exact .ptr e1
  · cases hu

theorem repl_length (z : List Value) : ∀ n, (repl z n).length = n * z.length
  | 0 => by simp [repl]
  | n + 1 => by simp [repl, repl_length z n, Nat.succ_mul]; omega
theorem repl_get (z : List Value) : ∀ (n j : Nat), j < n * z.length → (repl z n)[j]? = z[j % z.length]?
  | 0, j, h => by simp at h
  | n + 1, j, h => by
    rw [Nat.succ_mul] at h
    rw [repl]
    by_cases hj : j < z.length
    · rw [List.getElem?_append_left hj, Nat.mod_eq_of_lt hj]
    · rw [List.getElem?_append_right (by omega), repl_get z n _ (by omega)]
      congr 1
      exact (Nat.mod_eq_sub_mod (by omega)).symm
theorem made_repl (z : Array Value) (n : Nat) : (madeCells z (n * z.size)).toList = repl z.toList n := by
  apply List.ext_getElem?
  intro j
  by_cases hj : j < n * z.size
  · rw [repl_get _ _ _ (by simpa using hj)]
    have hz : 0 < z.size := Nat.pos_of_ne_zero fun h => by rw [h] at hj; simp at hj
    have hm : j % z.size < z.size := Nat.mod_lt _ hz
    simp [madeCells, hj, hm]
  · rw [List.getElem?_eq_none (by simp [madeCells]; omega), List.getElem?_eq_none (by rw [repl_length]; simp; omega)]
theorem LR.repl {z z' : List Value} (h : LR ρ z z') : ∀ n, LR ρ (repl z n) (Ev.repl z' n)
  | 0 => .nil
  | n + 1 => h.append (h.repl n)
theorem plain_cells {z : Value} (h : plainV z = true) : LR ρ (cellsOfV z) z.cells.toList := (VR.plain_refl h).cellsOf

theorem bigNo_le {n : Nat} (h : bigNo n = true) : n ≤ 1099511627776 := Nat.le_of_ble_eq_true h
theorem zeroV_spec (T : TabOk P τ) {t : TypeId} {z : Value} {i : TypeInfo} (hi : τ.inf.get t = some i) (hz : zeroV τ t = some z) : i.zero = some z ∧ plainV z = true := by
  unfold zeroV at hz
  simp only [hi] at hz
  split at hz
  · rename_i z' hzz
    obtain ⟨h1, h2⟩ := bifO hz
    cases h2; exact ⟨hzz, h1⟩
  · cases hz

theorem makeSlice_sound (T : TabOk P τ) (hk : Hkt P τ ρ h w) {t : TypeId} {l c l' c' u : Value} {h' : Hp} (hu : makeSliceB τ t l c h = some (u, h')) (hl : VR ρ l l') (hc : VR ρ c c') :
    Goes P τ ρ h w (do pure (.value (← Instr.makeSlice t l' c'))) u h' := by
  unfold makeSliceB at hu
  split at hu
  · rename_i e ln cn hd h1 h2
    split at hu
    · rename_i i z hi hz
      replace hu := bifO hu; obtain ⟨hcnd, hu⟩ := hu
      obtain ⟨hcnd, c5⟩ := and2 hcnd
      obtain ⟨hcnd, c4⟩ := and2 hcnd
      obtain ⟨hcnd, c3⟩ := and2 hcnd
      obtain ⟨c1, c2⟩ := and2 hcnd
      have c1 := Nat.le_of_ble_eq_true c1
      have c2 := bigNo_le c2
      have c3 := bigNo_le c3
      have c5 := Nat.eq_of_beq_eq_true c5
      simp only [Option.some.injEq, Prod.mk.injEq] at hu; obtain ⟨rfl, rfl⟩ := hu
      obtain ⟨k, rfl⟩ := asIdx_VR h1 hl
      obtain ⟨k2, rfl⟩ := asIdx_VR h2 hc
      obtain ⟨z1, z2⟩ := zeroV_spec T hi hz
      have hrun := run_make (P := P) w t e i z (T.ds _ _ hd) (T.inf _ _ hi) z1 k k2 (ln : Int) (cn : Int) (by omega) (by omega) (by rw [← Int.natCast_mul, Nat.mul_comm]; omega) (by omega)
      simp only [Int.toNat_natCast] at hrun
      have hzl := plain_cells (ρ := ρ) z2
      have hzs : z.cells.size = i.size := by rw [← c5, hzl.length, Array.length_toList]
      rw [← hzs] at hrun
      have hm : madeCells z.cells (cn * z.cells.size) = ⟨repl z.cells.toList cn⟩ := by rw [← made_repl]
      rw [hm] at hrun
      obtain ⟨k3, k4⟩ := row_new hk e (hzl.repl cn)
      exact Goes.made (vrun hrun) (by have := slice_new (ρ' := ρ.upd h.nx ⟨w.heap.size, 0, 0⟩) (id := h.nx) (pl := ⟨w.heap.size, 0, 0⟩) (Ren.upd_same _ _) rfl cn cn (by simp)
                                      have h2 := VR.slice (ρ := ρ.upd h.nx ⟨w.heap.size, 0, 0⟩) (id := h.nx) (off := 0) (sp := none) (len := ln) (cap := cn) (o' := 0) (Ren.upd_same _ _) (fun _ => rfl)
                                      simpa [slk] using h2) k3 k4 (WS.le_refl _)
    · cases hu
  · cases hu

theorem lenB_run {x x' : Value} {n : Nat} (hx : VR ρ x x') (hn : lenB x = some n) (w : World) : (Builtin.lenOf x').run P w = .ok n w := by
  unfold lenB at hn
  split at hn <;> simp at hn <;> subst hn <;> cases hx <;> simp [Builtin.lenOf]

theorem src_sound (hk : Hkt P τ ρ h w) {size n m : Nat} {x x' : Value} {l : List Value} (hx : VR ρ x x') (hs : srcB size h x n = some l) (hm : lenB x = some m) (hnm : n ≤ m) :
    ∃ l', LR ρ l l' ∧ l.length = n * size ∧ (Builtin.firstCells size n x').run P w = .ok ⟨l'⟩ w := by
  unfold srcB at hs
  split at hs
  · simp at hs; subst hs
    cases hx
    exact ⟨[], .nil, by simp, by simp [Builtin.firstCells]⟩
  · rename_i a ln cp
    split at hs
    · rename_i c nn e lo hi xx eH
      cases hx with | @slice id off sp _ _ pl o' e1 e2 =>
      simp [lenB] at hm
      obtain ⟨l', h1, h2, _⟩ := gather_run (hk.1.hr _ _ _ e1 eH) hs
      have hlen := (gather_get _ _ _ _ hs).1
      refine ⟨l', h1, hlen, ?_⟩
      simp only [Builtin.firstCells]
      by_cases hz : n = 0
      · subst hz
        have : l' = [] := by
          have h3 := h1.length
          cases l' with | nil => rfl | cons _ _ => simp at h3; omega
        subst this
        rw [Nat.zero_mul]; rfl
      · rw [e2 (by omega)]; exact h2
    · cases hs
  · rename_i n0 s
    obtain ⟨hc, hs⟩ := bifO hs
    simp only [Option.some.injEq] at hs; subst hs
    cases hx
    simp [lenB] at hm
    have hc := Nat.eq_of_beq_eq_true hc
    subst hc
    refine ⟨_, LR.bytes _, by simp; omega, ?_⟩
    simp only [Builtin.firstCells, Sem.run_pure]
    congr 1
    apply Array.ext'
    rw [extract_mkS]
    simp [mkS]
  · cases hs

theorem zeros_spec (T : TabOk P τ) {ts : List TypeId} (hz : isIntT τ ts.head? = false) :
    ts[0]? = none ∨ ∃ t d, ts[0]? = some t ∧ P.underlying t = some d ∧ (match d with | .int _ => true | _ => false) = false := by
  cases ts with
  | nil => exact .inl rfl
  | cons t ts =>
    simp only [isIntT, List.head?_cons] at hz
    split at hz
    · cases hz
    · rename_i d hn hd
      refine .inr ⟨t, d, rfl, T.ds _ _ hd, ?_⟩
      cases d <;> first
        | rfl
        | exact absurd rfl (hn _)
    · cases hz

theorem zeroCells_repl (z : Array Value) (n : Nat) : Builtin.zeroCells z n = ⟨repl z.toList n⟩ := by
  rw [← made_repl]; rfl

theorem growBy_le (need : Nat) : ∀ (r c : Nat), c < need + (need / 4 + 192) → Builtin.growBy need r c ≤ need + (need / 4 + 192)
  | 0, c, h => by simp only [Builtin.growBy]; omega
  | r + 1, c, h => by
    simp only [Builtin.growBy]
    split
    · omega
    · exact (Nat.lt_or_ge (c + (c + 768) / 4) (need + (need / 4 + 192))).elim (growBy_le need r _) fun h' => absurd h' (by omega)
theorem nextslicecap_le (need c : Nat) (h : c < need) : Builtin.nextslicecap need c ≤ 2 * need + 192 := by
  unfold Builtin.nextslicecap
  split
  · omega
  · split
    · omega
    · have := growBy_le need 4 c (by omega); omega

/-- The second argument's cells fit into the first one's place. -/
theorem append_fits (T : TabOk P τ) {st e : TypeId} {ts : List TypeId} {i : TypeInfo} {base : Option Addr} {sLen sCap n : Nat} {x : Value} {new : List Value} {w' : World} (ty : TypeId)
    (hz : isIntT τ ts.head? = false) (hd : τ.ds.get st = some (.slice e)) (hi : τ.inf.get e = some i) (hn : (Builtin.lenOf x).run P w = .ok n w)
    (hf : (Builtin.firstCells i.size n x).run P w = .ok ⟨new⟩ w) (hle : sLen + n ≤ sCap)
    (hs : match base with | some a => (storeCells (a.add (sLen * i.size)) new).run P w = .ok () w' | none => w' = w) :
    (Builtin.append_ ⟨st :: ts⟩ ty ⟨[.slice base sLen sCap, x]⟩).run P w = .ok (.slice base (sLen + n) sCap) w' := by
  rcases zeros_spec T hz with h0 | ⟨t, d, h0, h1, h2⟩
  · unfold Builtin.append_
    simp only [List.getElem?_toArray, List.getElem?_cons_succ, List.getElem?_cons_zero, Sem.run_bind, run_underlying (T.ds _ _ hd), run_sizeOf (T.inf _ _ hi), Result.andThen_ok, h0]
    simp only [Sem.run_bind, Sem.run_pure, Result.andThen_ok, Bool.false_eq_true, if_false, hn, hle, if_true, hf, Bool.not_false]
    cases base with
    | none => simp only at hs; subst hs; rfl
    | some a => simp only [] at hs; simp [hs]
  · unfold Builtin.append_
    simp only [List.getElem?_toArray, List.getElem?_cons_succ, List.getElem?_cons_zero, Sem.run_bind, run_underlying (T.ds _ _ hd), run_sizeOf (T.inf _ _ hi), Result.andThen_ok, h0, run_underlying h1, Sem.run_pure]
    cases d <;> first
      | (simp at h2; done)
      | (simp only [Sem.run_bind, Sem.run_pure, Result.andThen_ok, Bool.false_eq_true, if_false, hn, hle, if_true, hf, Bool.not_false]
         cases base with
         | none => simp only at hs; subst hs; rfl
         | some a => simp only [] at hs; simp [hs])

theorem append_grow (T : TabOk P τ) {st e : TypeId} {ts : List TypeId} {i : TypeInfo} {z : Value} {base : Option Addr} {sLen sCap n : Nat} {x : Value} {old new : List Value} (ty : TypeId)
    (hz : isIntT τ ts.head? = false) (hd : τ.ds.get st = some (.slice e)) (hi : τ.inf.get e = some i) (hzv : zeroV τ e = some z) (hn : (Builtin.lenOf x).run P w = .ok n w)
    (hf : (Builtin.firstCells i.size n x).run P w.drew = .ok ⟨new⟩ w.drew) (ho : (Builtin.firstCells i.size sLen (.slice base sLen sCap)).run P w.drew = .ok ⟨old⟩ w.drew) (hle : sCap < sLen + n)
    (hb1 : sLen + n ≤ 1099511627776) (hb2 : (sLen + n) * i.bytes ≤ 1099511627776) :
    ∃ c, sLen + n ≤ c ∧ (Builtin.append_ ⟨st :: ts⟩ ty ⟨[.slice base sLen sCap, x]⟩).run P w =
      .ok (.slice (some ⟨w.heap.size, 0, none⟩) (sLen + n) c) (w.drew.alloc (.cells ⟨old ++ new ++ repl z.cells.toList (c - (sLen + n))⟩ e)) := by
  obtain ⟨c, hc, hr⟩ := run_appendCap (P := P) (sLen + n) sCap e w
  refine ⟨c, hc, ?_⟩
  have h1 : ¬ (sLen + n ≤ sCap) := by omega
  have h2 : ¬ (((sLen + n : Nat) : Int) > IntKind.i64.max) := by simp [IntKind.max, IntKind.signed, IntKind.bits]; omega
  have h3 : ¬ (Builtin.nextslicecap (sLen + n) sCap * i.bytes > 2 ^ 48) := by
    have hn := nextslicecap_le (sLen + n) sCap hle
    have hb : i.bytes ≤ 1099511627776 := Nat.le_trans (Nat.le_mul_of_pos_left _ (by omega)) hb2
    have := Nat.mul_le_mul_right i.bytes hn
    rw [Nat.add_mul, Nat.mul_assoc] at this
    omega
  obtain ⟨z1, z2⟩ := zeroV_spec T hi hzv
  have hzr : ∀ w, (zeroValue e).run P w = .ok z w := fun w => run_zeroValue (T.inf _ _ hi) z1 w
  have har : ∀ (k : Nat) w, (askRoom k).run P w = .ok () w := fun k w => by unfold askRoom; split <;> simp
  have ha : ({ toList := old } ++ { toList := new } ++ { toList := repl z.cells.toList (c - (sLen + n)) } : Array Value) = ⟨old ++ new ++ repl z.cells.toList (c - (sLen + n))⟩ := by
    apply Array.ext'; simp
  rcases zeros_spec T hz with h0 | ⟨t, d, h0, h4, h5⟩
  · unfold Builtin.append_
    simp only [List.getElem?_toArray, List.getElem?_cons_succ, List.getElem?_cons_zero, Sem.run_bind, run_underlying (T.ds _ _ hd), run_sizeOf (T.inf _ _ hi), Result.andThen_ok, h0]
    simp only [Sem.run_bind, Sem.run_pure, Result.andThen_ok, Bool.false_eq_true, if_false, hn, h1, h2, false_and, if_true, Bool.not_false, run_typeInfo (T.inf _ _ hi), h3, hr, har, ho, hf, hzr, newRow, run_newObj, World.size_drew, zeroCells_repl, ha]
    rfl
  · unfold Builtin.append_
    simp only [List.getElem?_toArray, List.getElem?_cons_succ, List.getElem?_cons_zero, Sem.run_bind, run_underlying (T.ds _ _ hd), run_sizeOf (T.inf _ _ hi), Result.andThen_ok, h0, run_underlying h4, Sem.run_pure]
    cases d <;> first
      | (simp at h5; done)
      | (simp only [Sem.run_bind, Sem.run_pure, Result.andThen_ok, Bool.false_eq_true, if_false, hn, h1, h2, false_and, if_true, Bool.not_false, run_typeInfo (T.inf _ _ hi), h3, hr, har, ho, hf, hzr, newRow, run_newObj, World.size_drew, zeroCells_repl, ha]
         rfl)

theorem Hkt.kill (hk : Hkt P τ ρ h w) (id : Nat) : Hkt P τ ρ (h.put id .dead) w := by
  refine ⟨?_, hk.2⟩
  show Hok P τ ρ (h.t.ins id .dead).get h.nx w
  rw [get_ins_upd]; exact hk.1.kill id

theorem Hkt.move (hk : Hkt P τ ρ h w) {id : Nat} {pl pl' : Pl} {hb hb' : HB} {w' : World} (e : ρ id = some pl) (eH : h.t.get id = some hb) (hl : hb.live = true) (hpl : pl'.b = pl.b)
    (hsz : w'.heap.size = w.heap.size) (hoth : ∀ b, b ≠ pl.b → w'.heap[b]? = w.heap[b]?) (hBR : BR P (ρ.upd h.nx pl') pl' w' hb') (hos : w'.os = w.os) (hout : w'.output = w.output) (htape : w'.tape = w.tape) (hdr : w.drawn ≤ w'.drawn := by exact Nat.le_refl _) :
    Hkt P τ (ρ.upd h.nx pl') ((h.put id .dead).new hb') w' ∧ Stp ρ w h.nx (ρ.upd h.nx pl') w' ((h.put id .dead).new hb').nx ((h.put id .dead).new hb').lo := by
  obtain ⟨h1, h2⟩ := hk.1.move e eH hl hpl hsz hoth hBR hos hout htape (h.low_le id).2 hk.2 hdr
  refine ⟨⟨?_, Nat.le_succ_of_le hk.2⟩, h2⟩
  show Hok P τ _ ((h.t.ins id .dead).ins h.nx hb').get (h.nx + 1) w'
  rw [get_ins_upd, get_ins_upd]; exact h1

theorem LR.length_eq {l l' : List Value} (hl : LR ρ l l') : l'.length = l.length := hl.length.symm

theorem appendZ_sound (T : TabOk P τ) (hk : Hkt P τ ρ h w) {ts : List TypeId} {vs vs' : List Value} {u : Value} {h' : Hp} (ty : TypeId) (hu : appendZB τ ts vs h = some (u, h')) (hv : LR ρ vs vs') :
    Goes P τ ρ h w (do pure (.value (← Builtin.append_ ⟨ts⟩ ty ⟨vs'⟩))) u h' := by
  unfold appendZB at hu
  split at hu
  case h_2 => cases hu
  rename_i st t2 ts n
  cases hv with | cons hs hv =>
  cases hv with | cons hx hv =>
  cases hv
  cases hs; cases hx
  split at hu
  case h_2 => cases hu
  rename_i k e hz hd
  have h4 := T.ds _ _ hz
  split at hu
  case h_2 => cases hu
  rename_i i z hi hzv
  replace hu := bifO hu; obtain ⟨hc, hu⟩ := hu
  obtain ⟨hc, c5⟩ := and2 hc
  obtain ⟨hc, c4⟩ := and2 hc
  obtain ⟨hc, c3⟩ := and2 hc
  obtain ⟨c1, c2⟩ := and2 hc
  have c1 : 0 < n := by simpa [Nat.blt_eq] using c1
  have c2 := bigNo_le c2
  have c3 := bigNo_le c3
  have c4 : 0 < i.size := by simpa [Nat.blt_eq] using c4
  have c5 := Nat.eq_of_beq_eq_true c5
  simp only [Option.some.injEq, Prod.mk.injEq] at hu; obtain ⟨rfl, rfl⟩ := hu
  obtain ⟨z1, z2⟩ := zeroV_spec T hi hzv
  have hzl := plain_cells (ρ := ρ) z2
  have hzs : (z.cells.toList).length = i.size := by rw [← c5, hzl.length]
  have hzr : ∀ w, (zeroValue e).run P w = .ok z w := fun w => run_zeroValue (T.inf _ _ hi) z1 w
  have har : ∀ (k : Nat) w, (askRoom k).run P w = .ok () w := fun k w => by unfold askRoom; split <;> simp
  obtain ⟨c, hcc, hr⟩ := run_appendCap (P := P) n 0 e w
  have h1 : ¬ (n ≤ 0) := by omega
  have hw : IntKind.i64.wrap (Int.ofNat n) = (n : Int) := by
    show IntKind.i64.wrap (n : Int) = (n : Int)
    unfold IntKind.wrap; simp [IntKind.signed, IntKind.bits]; omega
  have h2 : ¬ ((n : Int) > IntKind.i64.max) := by simp [IntKind.max, IntKind.signed, IntKind.bits]; omega
  have h3 : ¬ (Builtin.nextslicecap n 0 * i.bytes > 2 ^ 48) := by
    unfold Builtin.nextslicecap
    rw [if_pos (by omega)]; omega
  have h5 : ¬ ((n : Int) < 0) := by omega
  have h6 : ¬ ((n : Int) * (i.bytes : Int) > 2 ^ 48) := by rw [← Int.natCast_mul]; omega
  have h7 : ¬ (n * i.size = 0) := Nat.ne_of_gt (Nat.mul_pos c1 c4)
  have hrun : (Builtin.append_ ⟨st :: t2 :: ts⟩ ty ⟨[.slice none 0 0, .int .i64 (Int.ofNat n)]⟩).run P w =
      .ok (.slice (some ⟨w.heap.size, 0, none⟩) n c) (w.drew.alloc (.cells ⟨repl z.cells.toList n ++ repl z.cells.toList (c - n)⟩ e)) := by
    have ha : ((#[] : Array Value) ++ { toList := repl z.cells.toList n } ++ { toList := repl z.cells.toList (c - n) } : Array Value) = ⟨repl z.cells.toList n ++ repl z.cells.toList (c - n)⟩ := by
      apply Array.ext'; simp
    unfold Builtin.append_
    simp only [List.getElem?_toArray, List.getElem?_cons_succ, List.getElem?_cons_zero, Sem.run_bind, run_underlying (T.ds _ _ hd), run_sizeOf (T.inf _ _ hi), Result.andThen_ok, run_underlying h4, Sem.run_pure]
    simp only [Sem.run_bind, Sem.run_pure, Result.andThen_ok, Bool.false_eq_true, Bool.not_true, if_true, if_false, asInt, asIntOf, hw, h5, h6, Int.toNat_natCast, Nat.zero_add, h1, h2, false_and, run_typeInfo (T.inf _ _ hi), h3, hr, har, h7, hzr, newRow, run_newObj, World.size_drew, zeroCells_repl, Builtin.firstCells, ha]
    rfl
  obtain ⟨k1, k2⟩ := rowA_new hk.drew e (hzl.repl n) (rest := repl z.cells.toList (c - n)) (c - n) (fun j hj => by
    rw [T.inf _ _ hi] at hj; cases hj; rw [repl_length, hzs]; exact Nat.le_refl _)
  exact Goes.made (vrun hrun) (slice_new (Ren.upd_same _ _) rfl n c (by simp; omega)) k1 k2.undrew (WS.le_refl _)

theorem append_sound (T : TabOk P τ) (hk : Hkt P τ ρ h w) {ts : List TypeId} {vs vs' : List Value} {u : Value} {h' : Hp} (ty : TypeId) (hu : appendB τ ts vs h = some (u, h')) (hv : LR ρ vs vs') :
    Goes P τ ρ h w (do pure (.value (← Builtin.append_ ⟨ts⟩ ty ⟨vs'⟩))) u h' := by
  unfold appendB at hu
  split at hu
  case h_2 => cases hu
  rename_i st ts s x
  cases hv with | cons hs hv =>
  cases hv with | cons hx hv =>
  cases hv
  rename_i s' x'
  replace hu := bifN hu; obtain ⟨hz, hu⟩ := hu
  split at hu
  case h_2 => cases hu
  rename_i e hd
  split at hu
  case h_2 => cases hu
  rename_i i n z hi hn hzv
  split at hu
  case h_2 => cases hu
  rename_i new hsrc
  replace hu := bifO hu; obtain ⟨hc, hu⟩ := hu
  obtain ⟨hc, c4⟩ := and2 hc
  obtain ⟨hc, c3⟩ := and2 hc
  obtain ⟨c1, c2⟩ := and2 hc
  have c1 : 0 < i.size := by simpa [Nat.blt_eq] using c1
  have c3 := Nat.eq_of_beq_eq_true c3
  obtain ⟨z1, z2⟩ := zeroV_spec T hi hzv
  have hzl : (z.cells.toList).length = i.size := by rw [← c3, (plain_cells (ρ := ρ) z2).length]
  have hrest : ∀ k, (repl z.cells.toList k).length = k * i.size := fun k => by rw [repl_length, hzl]
  have hii := T.inf _ _ hi
  have hn' := lenB_run (P := P) hx hn w
  split at hu
  · -- onto nil
    cases hs
    cases hn0 : Nat.beq n 0 with
    | true =>
      simp only [hn0, cond_true, Option.some.injEq, Prod.mk.injEq] at hu; obtain ⟨rfl, rfl⟩ := hu
      have hn0 := Nat.eq_of_beq_eq_true hn0
      subst hn0
      obtain ⟨new', l1, l2, l3⟩ := src_sound hk hx hsrc hn (Nat.le_refl _)
      exact Goes.pure hk (vrun (append_fits T (base := none) (sLen := 0) (sCap := 0) ty hz hd hi hn' l3 (Nat.le_refl _) rfl)) (.nilslice 0 0)
    | false =>
      simp only [hn0, cond_false] at hu
      have hn0 : n ≠ 0 := fun hh => by rw [hh] at hn0; simp at hn0
      replace hu := bifO hu; obtain ⟨hb, hu⟩ := hu
      obtain ⟨b1, b2⟩ := and2 hb
      simp only [Option.some.injEq, Prod.mk.injEq] at hu; obtain ⟨rfl, rfl⟩ := hu
      obtain ⟨new', l1, l2, l3⟩ := src_sound hk.drew hx hsrc hn (Nat.le_refl _)
      obtain ⟨c, hc, hr⟩ := append_grow (w := w) (base := none) (sLen := 0) (sCap := 0) (old := []) T ty hz hd hi hzv hn' l3 (by simp [Builtin.firstCells]) (by omega) (by have := bigNo_le b2; omega) (by have := bigNo_le b1; rw [Nat.zero_add]; omega)
      rw [Nat.zero_add] at hr hc
      obtain ⟨k1, k2⟩ := rowA_new hk.drew e l1 (rest := repl z.cells.toList (c - n)) (c - n) (fun j hj => by rw [hii] at hj; cases hj; rw [hrest]; exact Nat.le_refl _)
      exact Goes.made (vrun hr) (slice_new (Ren.upd_same _ _) rfl n c (by simp; omega)) k1 k2.undrew (WS.le_refl _)
  · -- onto a slice
    rename_i a len cap
    cases hs with | @slice id off sp _ _ pl o' e1 e2 =>
    cases hfit : Nat.ble (len + n) cap with
    | true =>
      simp only [hfit, cond_true] at hu
      have hfit := Nat.le_of_ble_eq_true hfit
      obtain ⟨new', l1, l2, l3⟩ := src_sound hk hx hsrc hn (Nat.le_refl _)
      split at hu
      case h_2 => cases hu
      rename_i h1 hst
      cases hn0 : Nat.beq n 0 with
      | true =>
        simp only [hn0, cond_true, Option.some.injEq, Prod.mk.injEq] at hu; obtain ⟨rfl, rfl⟩ := hu
        have hn0 := Nat.eq_of_beq_eq_true hn0
        subst hn0
        have : new' = [] := by
          have h3 := l1.length
          rw [l2, Nat.zero_mul] at h3
          exact List.eq_nil_of_length_eq_zero h3.symm
        subst this
        exact Goes.pure hk (vrun (append_fits T (base := some ⟨pl.b, o', none⟩) (sLen := len) (sCap := cap + slk sp pl) (w' := w) ty hz hd hi hn' l3 (by omega) rfl)) (.slice e1 e2)
      | false =>
        simp only [hn0, cond_false, Option.some.injEq, Prod.mk.injEq] at hu; obtain ⟨rfl, rfl⟩ := hu
        have hn0 : n ≠ 0 := fun hh => by rw [hh] at hn0; simp at hn0
        have ho := e2 (by omega)
        obtain ⟨w', s1, s2, s3, s4⟩ := storeB_sound hk e1 hst l1
        refine Goes.made (vrun (append_fits T (base := some ⟨pl.b, o', none⟩) (sLen := len) (sCap := cap + slk sp pl) (w' := w') ty hz hd hi hn' l3 (by omega) ?_)) (.slice e1 fun _ => ho) s2 s3 s4
        simp only [addr_add, ho]
        rw [Nat.add_assoc]; exact s1
    | false =>
      simp only [hfit, cond_false] at hu
      have hfit : cap < len + n := Nat.lt_of_not_le fun hh => by rw [Nat.ble_eq_true_of_le hh] at hfit; cases hfit
      replace hu := bifO hu; obtain ⟨hb, hu⟩ := hu
      obtain ⟨b1, b2⟩ := and2 hb
      have b1 := bigNo_le b1
      have b2 := bigNo_le b2
      split at hu
      case h_2 => cases hu
      rename_i c m e' lo hi' xx eH
      replace hu := bifO hu; obtain ⟨hee, hu⟩ := hu
      have hee := Nat.eq_of_beq_eq_true hee
      subst hee
      split at hu
      case h_2 => cases hu
      rename_i old hg
      have hsrcO : srcB i.size h (.slice (some ⟨id, off, sp⟩) len cap) len = some old := by simp only [srcB, eH]; exact hg
      have hgrow : cap + slk sp pl < len + n → ∃ c' old' new', LR ρ old old' ∧ LR ρ new new' ∧ len + n ≤ c' ∧ (Builtin.append_ ⟨st :: ts⟩ ty ⟨[.slice (some ⟨pl.b, o', none⟩) len (cap + slk sp pl), x']⟩).run P w =
          .ok (.slice (some ⟨w.heap.size, 0, none⟩) (len + n) c') (w.drew.alloc (.cells ⟨old' ++ new' ++ repl z.cells.toList (c' - (len + n))⟩ e)) := by
        intro hgr
        obtain ⟨new', l1, l2, l3⟩ := src_sound hk.drew hx hsrc hn (Nat.le_refl _)
        obtain ⟨old', o1, o2, o3⟩ := src_sound hk.drew (VR.slice (sp := sp) (len := len) (cap := cap) e1 e2) hsrcO rfl (Nat.le_refl _)
        obtain ⟨c', hc', hr⟩ := append_grow (w := w) (base := some ⟨pl.b, o', none⟩) (sLen := len) (sCap := cap + slk sp pl) T ty hz hd hi hzv hn' l3 o3 hgr b2 b1
        exact ⟨c', old', new', o1, l1, hc', hr⟩
      split at hu
      · -- the capacity is exact
        simp only [Option.some.injEq, Prod.mk.injEq] at hu; obtain ⟨rfl, rfl⟩ := hu
        obtain ⟨c', old', new', o1, l1, hc', hr⟩ := hgrow (by show cap + 0 < len + n; omega)
        obtain ⟨k1, k2⟩ := rowA_new hk.drew e (o1.append l1) (rest := repl z.cells.toList (c' - (len + n))) (c' - (len + n)) (fun j hj => by rw [hii] at hj; cases hj; rw [hrest]; exact Nat.le_refl _)
        exact Goes.made (vrun hr) (slice_new (Ren.upd_same _ _) rfl (len + n) c' (by simp; omega)) k1 k2.undrew (WS.le_refl _)
      · replace hu := bifO hu; obtain ⟨hcc, hu⟩ := hu
        obtain ⟨d1, d2⟩ := and2 hcc
        have d1 : off + cap * i.size = m := Nat.eq_of_beq_eq_true d1
        simp only [Option.some.injEq, Prod.mk.injEq] at hu; obtain ⟨rfl, rfl⟩ := hu
        have hslk : slk none pl = pl.s := rfl
        rcases Nat.lt_or_ge (cap + slk none pl) (len + n) with hgr | hgr
        · -- the model takes new memory
          obtain ⟨c', old', new', o1, l1, hc', hr⟩ := hgrow hgr
          have hle := Ren.le_upd (hk.1.fresh h.nx (Nat.le_refl _)) ⟨w.heap.size, 0, c' - (len + n)⟩
          obtain ⟨k1, k2⟩ := (hk.kill id).drew.alloc (.cells ⟨old' ++ new' ++ repl z.cells.toList (c' - (len + n))⟩ e) _ (c' - (len + n))
            (BR.row (P := P) ((o1.append l1).mono hle) (c' - (len + n)) (fun j hj => by rw [hii] at hj; cases hj; rw [hrest]; exact Nat.le_refl _)
              (bif Nat.ble hi' lo then lo else lo - off) (bif Nat.ble hi' lo then hi' else hi' - off) (0, 0) (.inl rfl) false (by simp) w.drew)
          exact Goes.made (vrun hr) (slice_new (Ren.upd_same _ _) rfl (len + n) c' (by simp; omega)) k1 k2.undrew (h.low_le id).1
        · -- the model's capacity holds them
          have hgr' : len + n ≤ cap + pl.s := hgr
          have ho : o' = pl.o + off := e2 (by rw [hslk]; omega)
          obtain ⟨new', l1, l2, l3⟩ := src_sound hk hx hsrc hn (Nat.le_refl _)
          have hbr := hk.1.hr _ _ _ e1 eH
          obtain ⟨C, fz, g1, g2, g3, g4, g5, g6⟩ := hbr
          have g3' := g3 i hii
          have hlt := (Array.getElem?_eq_some_iff.1 g1).1
          obtain ⟨hol, hog⟩ := gather_get _ _ _ _ hg
          have hog : ∀ (j : Nat) v, old[j]? = some v → c.get (off + j) = some v := hog
          have hsum : (len + n) * i.size ≤ (cap + pl.s) * i.size := Nat.mul_le_mul_right _ hgr'
          have hlenc : len * i.size + n * i.size = (len + n) * i.size := (Nat.add_mul ..).symm
          have hcaps : (cap + pl.s) * i.size = cap * i.size + pl.s * i.size := Nat.add_mul ..
          have hnl : new'.length = n * i.size := by rw [l1.length_eq, l2]
          have hfree : ∀ j, j < new'.length → ¬ (fz.1 ≤ pl.o + off + len * i.size + 0 + j ∧ pl.o + off + len * i.size + 0 + j < fz.2) := by
            intro j hj ⟨f1, f2⟩
            simp only [Bool.or_eq_true, Bool.and_eq_true] at d2
            rcases g5 with h | ⟨_, _, h⟩ | ⟨q1, q2, q3⟩
            · omega
            · omega
            · rcases d2 with d2 | ⟨d2, d3⟩
              · have d2 := Nat.le_of_ble_eq_true d2; omega
              · have d2 := Nat.le_of_ble_eq_true d2
                have d3 : hi' ≤ off + len * i.size := Nat.le_of_ble_eq_true d3
                omega
          have hrun := run_storeCells (P := P) pl.b (pl.o + off + len * i.size) e fz new' 0 C w g1 (l1.one_all c2) (by omega) hfree
          have hpl : ∀ k, (cap + pl.s - (len + n)) * i.size = k → k + (len + n) * i.size = (cap + pl.s) * i.size := by
            intro k hk'
            rw [← hk', ← Nat.add_mul, Nat.sub_add_cancel hgr']
          have hlo := Ren.le_upd (hk.1.fresh h.nx (Nat.le_refl _)) ⟨pl.b, pl.o + off, cap + pl.s - (len + n)⟩
          have hol' : old.length = len * i.size := hol
          have hBR : BR P (ρ.upd h.nx ⟨pl.b, pl.o + off, cap + pl.s - (len + n)⟩) ⟨pl.b, pl.o + off, cap + pl.s - (len + n)⟩
              { w with heap := w.heap.setIfInBounds pl.b (.cells (setL C (pl.o + off + len * i.size + 0) new') e fz) }
              (.cells (Ev.T.laid (old ++ new) 0 .nil) (old ++ new).length e (bif Nat.ble hi' lo then lo else lo - off) (bif Nat.ble hi' lo then hi' else hi' - off) false) := by
            refine ⟨setL C (pl.o + off + len * i.size + 0) new', fz, by simp [hlt], ?_, fun j hj => ?_, fun j v hv => ?_, ?_, by simp⟩
            · rw [setL_size, List.length_append, hol', l2]; simp only []; omega
            · rw [hii] at hj; cases hj
              rw [setL_size, List.length_append, hol', l2]
              have := hpl _ rfl
              simp only []
              omega
            · rw [Ev.T.get_laid] at hv
              rw [setL_get _ _ _ _ (by omega)]
              simp only [Nat.zero_le, true_and, Nat.zero_add, Nat.sub_zero] at hv
              by_cases hj : j < (old ++ new).length
              · rw [if_pos hj] at hv
                refine ⟨hj, ?_⟩
                rw [List.length_append] at hj
                by_cases hjo : j < old.length
                · rw [List.getElem?_append_left hjo] at hv
                  obtain ⟨_, v', a2, a3⟩ := g4 _ _ (hog j v hv)
                  refine ⟨v', ?_, a3.mono hlo⟩
                  rw [if_neg (by simp only []; omega)]
                  simp only []
                  rw [Nat.add_assoc]; exact a2
                · rw [List.getElem?_append_right (by omega)] at hv
                  obtain ⟨v', a1, a2⟩ := l1.get hv
                  refine ⟨v', ?_, a2.mono hlo⟩
                  simp only []
                  rw [if_pos (by omega), show pl.o + off + j - (pl.o + off + len * i.size + 0) = j - old.length by omega]
                  exact a1
              · rw [if_neg hj, Ev.T.get_nil] at hv; cases hv
            · rw [setL_size]
              simp only [Bool.or_eq_true, Bool.and_eq_true] at d2
              cases hhl : Nat.ble hi' lo with
              | true =>
                have hhl := Nat.le_of_ble_eq_true hhl
                simp only [cond_true]
                rcases g5 with h | h | ⟨q1, q2, q3⟩
                · exact .inl h
                · exact .inr (.inl h)
                · exact .inl (by omega)
              | false =>
                simp only [cond_false]
                rcases d2 with d2 | ⟨d2, d3⟩
                · rw [d2] at hhl; cases hhl
                · have d2 := Nat.le_of_ble_eq_true d2
                  have hhl' : ¬ hi' ≤ lo := fun hh => by rw [Nat.ble_eq_true_of_le hh] at hhl; cases hhl
                  rcases g5 with h | ⟨h1, h2, _⟩ | ⟨q1, q2, q3⟩
                  · exact .inl h
                  · omega
                  · have d2 : off ≤ lo := d2
                    exact .inr (.inr ⟨by omega, q2, by omega⟩)
          obtain ⟨k1, k2⟩ := hk.move (pl' := ⟨pl.b, pl.o + off, cap + pl.s - (len + n)⟩) e1 eH rfl rfl (by simp) (fun b hb => by show (w.heap.setIfInBounds pl.b _)[b]? = _; rw [Array.getElem?_setIfInBounds_ne (Ne.symm hb)]) hBR rfl rfl rfl
          refine Goes.made (vrun (append_fits T (base := some ⟨pl.b, o', none⟩) (sLen := len) (sCap := cap + slk none pl) ty hz hd hi hn' l3 hgr (by simp only [addr_add, ho]; exact hrun))) ?_ k1 k2 (h.low_le id).1
          have hvr := VR.slice (ρ := ρ.upd h.nx ⟨pl.b, pl.o + off, cap + pl.s - (len + n)⟩) (id := h.nx) (off := 0) (sp := none) (len := len + n) (cap := len + n) (o' := o') (Ren.upd_same _ _) (fun _ => by simp only []; omega)
          have hcc : len + n + slk none (⟨pl.b, pl.o + off, cap + pl.s - (len + n)⟩ : Pl) = cap + slk none pl := by
            show len + n + (cap + pl.s - (len + n)) = cap + pl.s
            omega
          rw [hcc] at hvr
          exact hvr
  · cases hu
end
end Go.Ev
end
