/-
  The program's package kana and cands.Kana, walked.
-/
import Derived.Test.YtehhkecoedbjoaaGreatDoorChecked
import Derived.WalkKit
import Derived.Below
import Derived.Lib.Hide
import Derived.Test.YtehhkecoedbjoaaGreatDoorKShelf
import Derived.MapKept
import Derived.Lib.OthersKept
import Derived.Lib.FrozenHead
import Derived.BigCall
import Derived.Laws.IdiomRangeMap
import Derived.Laws.IdiomStrings
import Derived.Laws.Cover4
import Derived.Deep.AppendLies
import Derived.OwnWalk
set_option linter.unusedVariables false
set_option linter.unusedSimpArgs false
set_option linter.unusedSectionVars false
section
/-
  The program's package kana: kinds of characters; Hira, Kata and Wide.
-/
namespace Go.Proofs
open Go.RowKit
def classOf (c : Int) : Int :=
  if 12353 ≤ c ∧ c ≤ 12438 then 1
  else if (12449 ≤ c ∧ c ≤ 12534) ∨ c = 12540 then 2
  else if 65377 ≤ c ∧ c ≤ 65439 then 3
  else if (65281 ≤ c ∧ c ≤ 65374) ∨ c = 12288 then 4
  else if 32 ≤ c ∧ c ≤ 126 then 5
  else if (13312 ≤ c ∧ c ≤ 19903) ∨ (19968 ≤ c ∧ c ≤ 40959) ∨ c = 12293 then 6
  else 0
theorem ret_intK {k : IntKind} {a b : Int} (h : a = b) : Ending.returned (.int k a) = .returned (.int k b) := by rw [h]
set_option maxHeartbeats 1000000 in
theorem Tryz.class24 (c : Int) (w : World) : Calls Tryz.prog 31 #[.int .i32 c] w fun e w' => e = .returned (.int .i64 (classOf c)) ∧ w = w' := by
  obtain ⟨q, hq⟩ : ∃ q, classOf c = q := ⟨_, rfl⟩
  rw [hq]
  have H := Lib.hid hq
  clear hq
  go_enter Tryz.func31, Tryz.ntmps31
  go_wp2
  all_goals
    go_ret
    refine ⟨ret_intK ?_, rfl⟩
    rw [← H.out]
    unfold classOf
    try simp only [beq_iff_eq, beq_eq_false_iff_ne] at *
    (repeat' split) <;> omega
def hiraF (c : Int) : Int := if classOf c = 2 ∧ c ≠ 12540 then c - 96 else c
def kataF (c : Int) : Int := if classOf c = 1 then c + 96 else c
def wideF (c : Int) : Int := if c = 32 then 12288 else if classOf c = 5 then c + 65248 else c
theorem class_lo {c : Int} (h : classOf c = 2) : 12449 ≤ c ∧ c ≤ 12540 := by
  unfold classOf at h
  (repeat' split at h) <;> omega
theorem class_1 {c : Int} (h : classOf c = 1) : 12353 ≤ c ∧ c ≤ 12438 := by
  unfold classOf at h
  (repeat' split at h) <;> omega
theorem class_5 {c : Int} (h : classOf c = 5) : 32 ≤ c ∧ c ≤ 126 := by
  unfold classOf at h
  (repeat' split at h) <;> omega
theorem Tryz.hira23 (c : Int) (w : World) : Calls Tryz.prog 30 #[.int .i32 c] w fun e w' => e = .returned (.int .i32 (hiraF c)) ∧ w = w' := by
  obtain ⟨q, hq⟩ : ∃ q, hiraF c = q := ⟨_, rfl⟩
  rw [hq]
  have H := Lib.hid hq
  clear hq
  by_cases h2 : classOf c = 2
  · obtain ⟨b1, b2⟩ := class_lo h2
    have H2 := Lib.hid h2
    have hc : (classOf c == 2) = true := by simp [h2]
    have hcall := Tryz.class24 c w
    rw [h2] at hcall
    clear h2 hc
    by_cases h3 : c = 12540
    · have h3' : (c == 12540) = true := by simp [h3]
      have H3 := Lib.hid h3
      clear h3
      go_enter Tryz.func30, Tryz.ntmps30
      go_wp2_with (go_at_call 31; refine hcall.mono ?_; rintro e w' ⟨rfl, rfl⟩)
      go_ret
      exact ⟨ret_intK (by rw [← H.out, hiraF, if_neg (fun h => h.2 H3.out)]), rfl⟩
    · have h3' : (c == 12540) = false := by simp [h3]
      have H3 := Lib.hid h3
      clear h3
      go_enter Tryz.func30, Tryz.ntmps30
      go_wp2_with (go_at_call 31; refine hcall.mono ?_; rintro e w' ⟨rfl, rfl⟩)
      go_ret
      exact ⟨ret_intK (by rw [← H.out, hiraF, if_pos ⟨H2.out, H3.out⟩]), rfl⟩
  · have hc : (classOf c == 2) = false := by simp [h2]
    have hcall := Tryz.class24 c w
    have H2 := Lib.hid h2
    generalize classOf c = k at hcall hc
    clear h2
    go_enter Tryz.func30, Tryz.ntmps30
    go_wp2_with (go_at_call 31; refine hcall.mono ?_; rintro e w' ⟨rfl, rfl⟩)
    go_ret
    exact ⟨ret_intK (by rw [← H.out, hiraF, if_neg (fun h => H2.out h.1)]), rfl⟩
theorem Tryz.kata25 (c : Int) (w : World) : Calls Tryz.prog 32 #[.int .i32 c] w fun e w' => e = .returned (.int .i32 (kataF c)) ∧ w = w' := by
  obtain ⟨q, hq⟩ : ∃ q, kataF c = q := ⟨_, rfl⟩
  rw [hq]
  have H := Lib.hid hq
  clear hq
  by_cases h2 : classOf c = 1
  · obtain ⟨b1, b2⟩ := class_1 h2
    have H2 := Lib.hid h2
    have hcall := Tryz.class24 c w
    rw [h2] at hcall
    clear h2
    go_enter Tryz.func32, Tryz.ntmps32
    go_wp2_with (go_at_call 31; refine hcall.mono ?_; rintro e w' ⟨rfl, rfl⟩)
    go_ret
    exact ⟨ret_intK (by rw [← H.out, kataF, if_pos H2.out]), rfl⟩
  · have hc : (classOf c == 1) = false := by simp [h2]
    have hcall := Tryz.class24 c w
    have H2 := Lib.hid h2
    generalize classOf c = k at hcall hc
    clear h2
    go_enter Tryz.func32, Tryz.ntmps32
    go_wp2_with (go_at_call 31; refine hcall.mono ?_; rintro e w' ⟨rfl, rfl⟩)
    go_ret
    exact ⟨ret_intK (by rw [← H.out, kataF, if_neg H2.out]), rfl⟩
theorem Tryz.wide26 (c : Int) (w : World) : Calls Tryz.prog 33 #[.int .i32 c] w fun e w' => e = .returned (.int .i32 (wideF c)) ∧ w = w' := by
  obtain ⟨q, hq⟩ : ∃ q, wideF c = q := ⟨_, rfl⟩
  rw [hq]
  have H := Lib.hid hq
  clear hq
  by_cases h1 : c = 32
  · have h1' : (c == 32) = true := by simp [h1]
    have H1 := Lib.hid h1
    clear h1
    go_enter Tryz.func33, Tryz.ntmps33
    go_wp2
    go_ret
    exact ⟨ret_intK (by rw [← H.out, wideF, if_pos H1.out]), rfl⟩
  · have h1' : (c == 32) = false := by simp [h1]
    have H1 := Lib.hid h1
    clear h1
    by_cases h2 : classOf c = 5
    · obtain ⟨b1, b2⟩ := class_5 h2
      have H2 := Lib.hid h2
      have hcall := Tryz.class24 c w
      rw [h2] at hcall
      clear h2
      go_enter Tryz.func33, Tryz.ntmps33
      go_wp2_with (go_at_call 31; refine hcall.mono ?_; rintro e w' ⟨rfl, rfl⟩)
      go_ret
      exact ⟨ret_intK (by rw [← H.out, wideF, if_neg H1.out, if_pos H2.out]), rfl⟩
    · have hc : (classOf c == 5) = false := by simp [h2]
      have hcall := Tryz.class24 c w
      have H2 := Lib.hid h2
      generalize classOf c = k at hcall hc
      clear h2
      go_enter Tryz.func33, Tryz.ntmps33
      go_wp2_with (go_at_call 31; refine hcall.mono ?_; rintro e w' ⟨rfl, rfl⟩)
      go_ret
      exact ⟨ret_intK (by rw [← H.out, wideF, if_neg H1.out, if_neg H2.out]), rfl⟩
end Go.Proofs
end

section
/-
  The program's package kana: each, Hira, Kata and Wide.
-/
namespace Go.Proofs
open Go.RowKit Go.Shelf Go.Lib

def eachS (f : Int → Int) (s : ByteArray) : ByteArray := if Lib.validD s.data.toList = true then ⟨(Lib.mapD f s.data.toList).toArray⟩ else s
theorem MapAtRunes.below {P : Program} {g : Nat} {lb : Array Value} {f : Int → Int} {w w1 : World} (h : MapAtRunes P g lb f w) (hb : Below w.heap.size w w1) : MapAtRunes P g lb f w1 :=
  fun W x hx hW => h W x hx (hb.trans (hW.mono hb.size))

theorem Tryz.valid17 (s : ByteArray) (w : World) (hs : s.size ≤ 9223372036854775807) (hT : Lib.Utf8Tabs 0 1 w) :
    Calls Tryz.prog 24 #[.string s] w fun e w' => e = .returned (.bool (Lib.validD s.data.toList)) ∧ Below w.heap.size w w' := by
  have hcall := Tryz.utf8_ValidString s w hs hT
  obtain ⟨b, hb⟩ : ∃ b, Lib.validD s.data.toList = b := ⟨_, rfl⟩
  rw [hb] at hcall ⊢
  clear hb hT
  go_enter Tryz.func24, Tryz.ntmps24
  go_wp2_with (go_at_call 53; refine hcall.mono ?_; rintro e w' ⟨rfl, hb⟩)
  go_ret
  exact ⟨rfl, hb⟩

theorem Tryz.each22 (s : ByteArray) (g : Nat) (f : Int → Int) (w : World) (hs : s.size < 35184372088832) (hT : Lib.Utf8Tabs 0 1 w) (eg : ∀ args w, (callFunc g args).run Tryz.prog w = .ok (.enter g args) w)
    (hf : MapAtRunes Tryz.prog g #[] f w) (hnn : ∀ x : Nat, x ≤ 1114111 → 0 ≤ f x ∧ f x ≤ 2147483647) :
    Calls Tryz.prog 29 #[.string s, .func (.func g) #[] #[]] w fun e w' => e = .returned (.string (eachS f s)) ∧ Below w.heap.size w w' := by
  have h17 := Tryz.valid17 s w (by omega) hT
  obtain ⟨q, hq⟩ : ∃ q, eachS f s = q := ⟨_, rfl⟩
  rw [hq]
  have H := Lib.hid hq
  clear hq
  have h38 : ∀ w1, Below w.heap.size w w1 → Calls Tryz.prog 56 #[.func (.func g) #[] #[], .string s] w1 fun e w' => e = .returned (.string ⟨(Lib.mapD f s.data.toList).toArray⟩) ∧ Below w1.heap.size w1 w' :=
    fun w1 hb => Tryz.strings_Map_runes g #[] eg f s w1 hs (hf.below hb) hnn (Utf8Tabs_below hT hb)
  clear hf hT eg
  cases hv : Lib.validD s.data.toList with
  | true =>
    rw [hv] at h17
    obtain ⟨m, hm⟩ : ∃ m : ByteArray, (⟨(Lib.mapD f s.data.toList).toArray⟩ : ByteArray) = m := ⟨_, rfl⟩
    rw [hm] at h38
    have HM := Lib.hid hm
    have HV := Lib.hid hv
    clear hm hv
    go_enter Tryz.func29, Tryz.ntmps29
    go_wp2_with (first
      | (go_at_call 24; refine h17.mono ?_; rintro e w1 ⟨rfl, hb1⟩)
      | (go_at_call 56; refine (h38 _ hb1).mono ?_; rintro e w2 ⟨rfl, hb2⟩))
    go_ret
    refine ⟨?_, hb1.trans (hb2.mono hb1.size)⟩
    rw [← H.out, eachS, if_pos HV.out, HM.out]
    rfl
  | false =>
    rw [hv] at h17
    have HV := Lib.hid hv
    clear hv h38
    go_enter Tryz.func29, Tryz.ntmps29
    go_wp2_with (go_at_call 24; refine h17.mono ?_; rintro e w1 ⟨rfl, hb1⟩)
    go_ret
    refine ⟨?_, hb1⟩
    rw [← H.out, eachS, if_neg (by rw [HV.out]; simp)]
    rfl
theorem hira_range (x : Nat) (h : x ≤ 1114111) : 0 ≤ hiraF x ∧ hiraF x ≤ 2147483647 := by
  unfold hiraF
  split
  · rename_i h2; have := class_lo h2.1; omega
  · omega
theorem kata_range (x : Nat) (h : x ≤ 1114111) : 0 ≤ kataF x ∧ kataF x ≤ 2147483647 := by
  unfold kataF
  split
  · rename_i h2; have := class_1 h2; omega
  · omega
theorem wide_range (x : Nat) (h : x ≤ 1114111) : 0 ≤ wideF x ∧ wideF x ≤ 2147483647 := by
  unfold wideF
  split
  · omega
  · split
    · rename_i h2; have := class_5 h2; omega
    · omega
theorem Tryz.hira7 (s : ByteArray) (w : World) (hs : s.size < 35184372088832) (hT : Lib.Utf8Tabs 0 1 w) :
    Calls Tryz.prog 9 #[.string s] w fun e w' => e = .returned (.string (eachS hiraF s)) ∧ Below w.heap.size w w' := by
  have hcall := Tryz.each22 s 30 hiraF w hs hT (enters_of Tryz.func30 (by kernel_rfl) rfl) (fun W x _ _ => (Tryz.hira23 x W).mono fun e w' ⟨he, hw⟩ => ⟨he, 0, hw.symm⟩) hira_range
  generalize eachS hiraF s = q at hcall ⊢
  clear hT
  go_enter Tryz.func9, Tryz.ntmps9
  go_wp2_with (go_at_call 29; refine hcall.mono ?_; rintro e w' ⟨rfl, hb⟩)
  go_ret
  exact ⟨rfl, hb⟩
theorem Tryz.kata8 (s : ByteArray) (w : World) (hs : s.size < 35184372088832) (hT : Lib.Utf8Tabs 0 1 w) :
    Calls Tryz.prog 10 #[.string s] w fun e w' => e = .returned (.string (eachS kataF s)) ∧ Below w.heap.size w w' := by
  have hcall := Tryz.each22 s 32 kataF w hs hT (enters_of Tryz.func32 (by kernel_rfl) rfl) (fun W x _ _ => (Tryz.kata25 x W).mono fun e w' ⟨he, hw⟩ => ⟨he, 0, hw.symm⟩) kata_range
  generalize eachS kataF s = q at hcall ⊢
  clear hT
  go_enter Tryz.func10, Tryz.ntmps10
  go_wp2_with (go_at_call 29; refine hcall.mono ?_; rintro e w' ⟨rfl, hb⟩)
  go_ret
  exact ⟨rfl, hb⟩
theorem Tryz.wide10 (s : ByteArray) (w : World) (hs : s.size < 35184372088832) (hT : Lib.Utf8Tabs 0 1 w) :
    Calls Tryz.prog 12 #[.string s] w fun e w' => e = .returned (.string (eachS wideF s)) ∧ Below w.heap.size w w' := by
  have hcall := Tryz.each22 s 33 wideF w hs hT (enters_of Tryz.func33 (by kernel_rfl) rfl) (fun W x _ _ => (Tryz.wide26 x W).mono fun e w' ⟨he, hw⟩ => ⟨he, 0, hw.symm⟩) wide_range
  generalize eachS wideF s = q at hcall ⊢
  clear hT
  go_enter Tryz.func12, Tryz.ntmps12
  go_wp2_with (go_at_call 29; refine hcall.mono ?_; rintro e w' ⟨rfl, hb⟩)
  go_ret
  exact ⟨rfl, hb⟩
end Go.Proofs
end

section
/-
  The program's package kana: the table of forms; look-ups in it; Half.
-/
namespace Go.Proofs
open Go.RowKit Go.Shelf Go.Lib Go.MapKept

/-! ### look-ups in a map whose entries are known -/
theorem findNow_tab {q : IntKind} (k : Int) : ∀ (l : List (Int × ByteArray)) (es : List MapEntry) (i : Nat), es.map (fun e => (e.key, e.val)) = l.map (fun p => (Value.int q p.1, Value.string p.2)) →
    ∃ r, Instr.findNow (.int q) (.int q k) es i = some r ∧ r.map (·.2) = (l.lookup k).map Value.string
  | [], es, i, h => by
    cases es with
    | nil => exact ⟨none, rfl, rfl⟩
    | cons e es => simp at h
  | p :: l, es, i, h => by
    cases es with
    | nil => simp at h
    | cons e es =>
      simp only [List.map_cons, List.cons.injEq, Prod.mk.injEq] at h
      obtain ⟨a, s⟩ := p
      obtain ⟨⟨h1, h2⟩, h3⟩ := h
      obtain ⟨r, r1, r2⟩ := findNow_tab k l es (i + 1) h3
      unfold Instr.findNow
      rw [h1]
      simp only [Instr.sameNow, if_true]
      cases hk : (k == a) with
      | true => exact ⟨_, rfl, by simp [List.lookup, hk, h2]⟩
      | false => exact ⟨r, r1, by rw [r2]; simp [List.lookup, hk]⟩
theorem findNow_tabS (k : ByteArray) : ∀ (l : List (ByteArray × ByteArray)) (es : List MapEntry) (i : Nat), es.map (fun e => (e.key, e.val)) = l.map (fun p => (Value.string p.1, Value.string p.2)) →
    ∃ r, Instr.findNow .string (.string k) es i = some r ∧ r.map (·.2) = (l.lookup k).map Value.string
  | [], es, i, h => by
    cases es with
    | nil => exact ⟨none, rfl, rfl⟩
    | cons e es => simp at h
  | p :: l, es, i, h => by
    cases es with
    | nil => simp at h
    | cons e es =>
      simp only [List.map_cons, List.cons.injEq, Prod.mk.injEq] at h
      obtain ⟨a, s⟩ := p
      obtain ⟨⟨h1, h2⟩, h3⟩ := h
      obtain ⟨r, r1, r2⟩ := findNow_tabS k l es (i + 1) h3
      unfold Instr.findNow
      rw [h1]
      simp only [Instr.sameNow]
      cases hk : (k == a) with
      | true => exact ⟨_, rfl, by simp [List.lookup, hk, h2]⟩
      | false => exact ⟨r, r1, by rw [r2]; simp [List.lookup, hk]⟩

theorem run_getObj_mapK {P : Program} {W : World} {r : Nat} {es : Array MapEntry} {ck : Nat} (hr : W.heap[r]? = some (.map es ck)) : (getObj r).run P W = .ok (.map es ck) W := by
  simp [getObj, Sem.run, hr]
section
variable {P : Program} {t kt et : TypeId} {W : World} {mb ck : Nat} {es : Array MapEntry}
theorem run_lookup_tab {q : IntKind} (hd : P.underlying t = some (.map kt et)) (hk : P.underlying kt = some (.int q)) (hz : (zeroValue et).run P W = .ok (.string .empty) W) (hW : W.heap[mb]? = some (.map es ck))
    {l : List (Int × ByteArray)} (hl : es.toList.map (fun e => (e.key, e.val)) = l.map (fun p => (Value.int q p.1, Value.string p.2))) (k : Int) :
    (Instr.lookup t (.map (some mb)) (.int q k) true).run P W = .ok (.tuple #[.string ((l.lookup k).getD .empty), .bool (l.lookup k).isSome]) W := by
  obtain ⟨r, r1, r2⟩ := findNow_tab k l es.toList 0 hl
  have hf := run_findKey (P := P) (w := W) hk r1
  have hc := run_checkKey (P := P) (w := W) (k := .int q k) hk (by simp [IsKey]) es.isEmpty 9999
  have hg : (getObj mb).run P W = .ok (.map es ck) W := run_getObj_mapK hW
  simp only [Instr.lookup, Sem.run_bind, run_underlying hd, Result.andThen_ok, hg, Sem.run_pure, hc, hf]
  cases hq : l.lookup k with
  | none =>
    rw [hq] at r2
    cases r with
    | none => simp [hz]
    | some x => simp at r2
  | some s =>
    rw [hq] at r2
    cases r with
    | none => simp at r2
    | some x => obtain ⟨i, v⟩ := x; simp at r2; subst r2; simp
theorem run_lookup_tabS (hd : P.underlying t = some (.map kt et)) (hk : P.underlying kt = some .string) (hz : (zeroValue et).run P W = .ok (.string .empty) W) (hW : W.heap[mb]? = some (.map es ck))
    {l : List (ByteArray × ByteArray)} (hl : es.toList.map (fun e => (e.key, e.val)) = l.map (fun p => (Value.string p.1, Value.string p.2))) (k : ByteArray) :
    (Instr.lookup t (.map (some mb)) (.string k) true).run P W = .ok (.tuple #[.string ((l.lookup k).getD .empty), .bool (l.lookup k).isSome]) W := by
  obtain ⟨r, r1, r2⟩ := findNow_tabS k l es.toList 0 hl
  have hf := run_findKey (P := P) (w := W) hk r1
  have hc := run_checkKey (P := P) (w := W) (k := .string k) hk (by simp [IsKey]) es.isEmpty 9999
  have hg : (getObj mb).run P W = .ok (.map es ck) W := run_getObj_mapK hW
  simp only [Instr.lookup, Sem.run_bind, run_underlying hd, Result.andThen_ok, hg, Sem.run_pure, hc, hf]
  cases hq : l.lookup k with
  | none =>
    rw [hq] at r2
    cases r with
    | none => simp [hz]
    | some x => simp at r2
  | some s =>
    rw [hq] at r2
    cases r with
    | none => simp at r2
    | some x => obtain ⟨i, v⟩ := x; simp at r2; subst r2; simp
end

/-- The half-width form of each character that has one: what 'forms' returns, in the order in which it is made. -/
def formsT : List (Int × ByteArray) := [(12290, ⟨#[239, 189, 161]⟩), (12300, ⟨#[239, 189, 162]⟩), (12301, ⟨#[239, 189, 163]⟩), (12289, ⟨#[239, 189, 164]⟩), (12539, ⟨#[239, 189, 165]⟩), (12530, ⟨#[239, 189, 166]⟩), (12449, ⟨#[239, 189, 167]⟩), (12451, ⟨#[239, 189, 168]⟩), (12453, ⟨#[239, 189, 169]⟩), (12455, ⟨#[239, 189, 170]⟩), (12457, ⟨#[239, 189, 171]⟩), (12515, ⟨#[239, 189, 172]⟩), (12517, ⟨#[239, 189, 173]⟩), (12519, ⟨#[239, 189, 174]⟩), (12483, ⟨#[239, 189, 175]⟩), (12540, ⟨#[239, 189, 176]⟩), (12450, ⟨#[239, 189, 177]⟩), (12452, ⟨#[239, 189, 178]⟩), (12454, ⟨#[239, 189, 179]⟩), (12456, ⟨#[239, 189, 180]⟩), (12458, ⟨#[239, 189, 181]⟩), (12459, ⟨#[239, 189, 182]⟩), (12461, ⟨#[239, 189, 183]⟩), (12463, ⟨#[239, 189, 184]⟩), (12465, ⟨#[239, 189, 185]⟩), (12467, ⟨#[239, 189, 186]⟩), (12469, ⟨#[239, 189, 187]⟩), (12471, ⟨#[239, 189, 188]⟩), (12473, ⟨#[239, 189, 189]⟩), (12475, ⟨#[239, 189, 190]⟩), (12477, ⟨#[239, 189, 191]⟩), (12479, ⟨#[239, 190, 128]⟩), (12481, ⟨#[239, 190, 129]⟩), (12484, ⟨#[239, 190, 130]⟩), (12486, ⟨#[239, 190, 131]⟩), (12488, ⟨#[239, 190, 132]⟩), (12490, ⟨#[239, 190, 133]⟩), (12491, ⟨#[239, 190, 134]⟩), (12492, ⟨#[239, 190, 135]⟩), (12493, ⟨#[239, 190, 136]⟩), (12494, ⟨#[239, 190, 137]⟩), (12495, ⟨#[239, 190, 138]⟩), (12498, ⟨#[239, 190, 139]⟩), (12501, ⟨#[239, 190, 140]⟩), (12504, ⟨#[239, 190, 141]⟩), (12507, ⟨#[239, 190, 142]⟩), (12510, ⟨#[239, 190, 143]⟩), (12511, ⟨#[239, 190, 144]⟩), (12512, ⟨#[239, 190, 145]⟩), (12513, ⟨#[239, 190, 146]⟩), (12514, ⟨#[239, 190, 147]⟩), (12516, ⟨#[239, 190, 148]⟩), (12518, ⟨#[239, 190, 149]⟩), (12520, ⟨#[239, 190, 150]⟩), (12521, ⟨#[239, 190, 151]⟩), (12522, ⟨#[239, 190, 152]⟩), (12523, ⟨#[239, 190, 153]⟩), (12524, ⟨#[239, 190, 154]⟩), (12525, ⟨#[239, 190, 155]⟩), (12527, ⟨#[239, 190, 156]⟩), (12531, ⟨#[239, 190, 157]⟩), (12532, ⟨#[239, 189, 179, 239, 190, 158]⟩), (12460, ⟨#[239, 189, 182, 239, 190, 158]⟩), (12462, ⟨#[239, 189, 183, 239, 190, 158]⟩), (12464, ⟨#[239, 189, 184, 239, 190, 158]⟩), (12466, ⟨#[239, 189, 185, 239, 190, 158]⟩), (12468, ⟨#[239, 189, 186, 239, 190, 158]⟩), (12470, ⟨#[239, 189, 187, 239, 190, 158]⟩), (12472, ⟨#[239, 189, 188, 239, 190, 158]⟩), (12474, ⟨#[239, 189, 189, 239, 190, 158]⟩), (12476, ⟨#[239, 189, 190, 239, 190, 158]⟩), (12478, ⟨#[239, 189, 191, 239, 190, 158]⟩), (12480, ⟨#[239, 190, 128, 239, 190, 158]⟩), (12482, ⟨#[239, 190, 129, 239, 190, 158]⟩), (12485, ⟨#[239, 190, 130, 239, 190, 158]⟩), (12487, ⟨#[239, 190, 131, 239, 190, 158]⟩), (12489, ⟨#[239, 190, 132, 239, 190, 158]⟩), (12496, ⟨#[239, 190, 138, 239, 190, 158]⟩), (12499, ⟨#[239, 190, 139, 239, 190, 158]⟩), (12502, ⟨#[239, 190, 140, 239, 190, 158]⟩), (12505, ⟨#[239, 190, 141, 239, 190, 158]⟩), (12508, ⟨#[239, 190, 142, 239, 190, 158]⟩), (12497, ⟨#[239, 190, 138, 239, 190, 159]⟩), (12500, ⟨#[239, 190, 139, 239, 190, 159]⟩), (12503, ⟨#[239, 190, 140, 239, 190, 159]⟩), (12506, ⟨#[239, 190, 141, 239, 190, 159]⟩), (12509, ⟨#[239, 190, 142, 239, 190, 159]⟩)]
def formsEs : Array MapEntry := ⟨formsT.zipIdx.map fun p => ⟨.int .i32 p.1.1, .string p.1.2, p.2⟩⟩
def FormsAt (W : World) (mb : Nat) : Prop := W.heap[mb]? = some (.map formsEs 87)
def Tryz.Forms (n : Nat) : Prop := ∀ w : World, n ≤ w.heap.size → Calls Tryz.prog 25 #[] w fun e w' => ∃ mb, e = .returned (.map (some mb)) ∧ w.heap.size ≤ mb ∧ mb < w'.heap.size ∧ FormsAt w' mb ∧ Below w.heap.size w w'
theorem forms_tab : formsEs.toList.map (fun e => (e.key, e.val)) = formsT.map (fun p => (Value.int .i32 p.1, Value.string p.2)) := by
  unfold formsEs
  simp only [List.map_map]
  have : ∀ (l : List (Int × ByteArray)) (n : Nat), (l.zipIdx n).map ((fun e : MapEntry => (e.key, e.val)) ∘ fun p => ⟨.int .i32 p.1.1, .string p.1.2, p.2⟩) = l.map (fun p => (Value.int .i32 p.1, Value.string p.2)) := by
    intro l
    induction l with
    | nil => intro n; rfl
    | cons p l ih => intro n; rw [List.zipIdx_cons, List.map_cons, ih]; rfl
  exact this formsT 0

/-- What Half writes for a character. -/
def halfC (c : Int) : List UInt8 := match formsT.lookup (kataF c) with
  | some h => h.data.toList
  | none => Lib.encodeRune c
def halfFrom (s : ByteArray) : Nat → Nat → List UInt8
  | 0, _ => []
  | fuel + 1, pos => if pos < s.size then halfC (Utf8.decode s pos).1 ++ halfFrom s fuel (pos + (Utf8.decode s pos).2) else []
def halfS (s : ByteArray) : ByteArray := if Lib.validD s.data.toList = true then ⟨(halfFrom s s.size 0).toArray⟩ else s
theorem halfFrom_end (s : ByteArray) (fuel pos : Nat) (h : ¬ pos < s.size) : halfFrom s fuel pos = [] := by
  cases fuel with
  | zero => rfl
  | succ f => simp [halfFrom, h]
theorem width_pos (s : ByteArray) (pos : Nat) (h : pos < s.size) : 1 ≤ (Utf8.decode s pos).2 := by
  by_cases ha : (s[pos]'h).toNat < 128
  · rw [decode_ascii s pos h ha]
    exact Nat.le_refl _
  · exact (decode_high s pos h (by omega)).2
theorem Tryz.Builder_WriteString_k (B b : Nat) (bs : List Value) (s : ByteArray) (w : World) (h : Lib.IsBuilderF 59 5 B b bs w) (hlen : bs.length + s.size ≤ 140737488355328) (hBw : B ≤ w.heap.size) :
    Calls Tryz.prog 26 #[.pointer (some ⟨b, 0, none⟩), .string s] w fun e w' => e = .returned (.tuple #[.int .i64 s.size, .nilIface]) ∧ (Lib.BuilderAtF 59 5 B b (.pointer (some ⟨b, 0, none⟩)) (bs ++ Lib.strCells s) w' ∧ Below B w w' ∧ Lib.OthersKept 5 (some b) w w') :=
  Any.Builder_WriteString_k (ρ := Tryz.lays230_ren) { Tryz.lays230 with } Tryz.Builder_Extra_230 B b bs s w h hlen hBw
theorem Tryz.Builder_WriteRune_k (B b : Nat) (bs : List Value) (r : Int) (hr0 : -2147483648 ≤ r) (hr1 : r ≤ 2147483647) (w : World) (h : Lib.IsBuilderF 59 5 B b bs w) (hlen : bs.length + 4 ≤ 140737488355328) (hBw : B ≤ w.heap.size) :
    Calls Tryz.prog 27 #[.pointer (some ⟨b, 0, none⟩), .int .i32 r] w fun e w' => e = .returned (.tuple #[.int .i64 (Lib.runeCells r).length, .nilIface]) ∧ (Lib.BuilderAtF 59 5 B b (.pointer (some ⟨b, 0, none⟩)) (bs ++ Lib.runeCells r) w' ∧ Below B w w' ∧ Lib.OthersKept 5 (some b) w w') :=
  Any.Builder_WriteRune_k (ρ := Tryz.lays230_ren) { Tryz.lays230 with } Tryz.Builder_Extra_230 B b bs r hr0 hr1 w h hlen hBw
end Go.Proofs
end

section
/-
  The program's package kana: Half.
-/
namespace Go.Proofs
open Go.RowKit Go.Shelf Go.Lib

theorem halfC_len (c : Int) : (halfC c).length ≤ 6 := by
  unfold halfC
  split
  · rename_i h hh
    have : ∀ p ∈ formsT, p.2.data.toList.length ≤ 6 := by decide
    have hm : (kataF c, h) ∈ formsT := by
      have : ∀ (l : List (Int × ByteArray)), l.lookup (kataF c) = some h → (kataF c, h) ∈ l := by
        intro l
        induction l with
        | nil => intro h; simp at h
        | cons p l ih =>
          obtain ⟨a, s⟩ := p
          intro hl
          simp only [List.lookup] at hl
          split at hl
          · rename_i he
            have : kataF c = a := by simpa using he
            cases hl; rw [this]; exact List.mem_cons_self
          · exact List.mem_cons_of_mem _ (ih hl)
      exact this _ hh
    exact this _ hm
  · have := Lib.runeCells_le c
    rw [Lib.runeCells_length] at this
    omega
theorem zero9 (w : World) : (zeroValue 9).run Tryz.prog w = .ok (.string .empty) w := Tryz.zeroValue9 w

set_option maxHeartbeats 4000000 in
set_option maxRecDepth 1000000 in
theorem Tryz.half9 {nF : Nat} (hF : Tryz.Forms nF) (s : ByteArray) (w : World) (hn : nF ≤ w.heap.size) (hs : s.size ≤ 17592186044416) (hT : Lib.Utf8Tabs 0 1 w) :
    Calls Tryz.prog 11 #[.string s] w fun e w' => e = .returned (.string (halfS s)) ∧ Below w.heap.size w w' := by
  have h17 := Tryz.valid17 s w (by omega) hT
  obtain ⟨q, hq⟩ : ∃ q, halfS s = q := ⟨_, rfl⟩
  rw [hq]
  have H := Lib.hid hq
  clear hq hT
  cases hv : Lib.validD s.data.toList with
  | false =>
    rw [hv] at h17
    have HV := Lib.hid hv
    clear hv
    go_enter Tryz.func11, Tryz.ntmps11
    go_wp2_with (go_at_call 24; refine h17.mono ?_; rintro e w1 ⟨rfl, hb1⟩)
    go_ret
    refine ⟨?_, hb1⟩
    rw [← H.out, halfS, if_neg (by rw [HV.out]; simp)]
    rfl
  | true =>
    rw [hv] at h17
    have HV := Lib.hid hv
    clear hv
    go_enter Tryz.func11, Tryz.ntmps11
    go_wp2_with (first
      | (go_at_call 24; refine h17.mono ?_; rintro e w1 ⟨rfl, hb1⟩)
      | (go_at_call 25; refine (hF _ (by have := hb1.size; omega)).mono ?_; rintro e w2 ⟨mb, rfl, hm1, hm2, hm3, hb2⟩))
    clear h17 hF
    have hB : w2.heap.size = w2.heap.size := rfl
    obtain ⟨ANS, hANS⟩ : ∃ A, halfFrom s s.size 0 = A := ⟨_, rfl⟩
    go_loopw [] (fun wr => ∃ (pos fuel : Nat) (acc : List UInt8), Lib.IsBuilderF 59 5 w2.heap.size w2.heap.size (Lib.byteCells acc) wr ∧ wr.heap[w2.heap.size + 1]? = some (.stringIter s pos) ∧ Below w2.heap.size w2 wr ∧ acc ++ halfFrom s fuel pos = ANS ∧ s.size ≤ pos + fuel ∧ acc.length ≤ 6 * pos) (fun wr => s.size - wr.iterPos (w2.heap.size + 1))
    case atStart =>
      refine ⟨0, s.size, [], (Lib.IsBuilderF.of (Lib.fresh_isBuilder 59 5 w2)).alloc _, ?_, ((Below.refl _ w2).alloc (Nat.le_refl _) _).alloc (by simp) _, by simpa using hANS, by omega, by simp⟩
      have := World.iter_heap (w2.alloc (.cells #[.pointer none, .slice none 0 0] 59)) s 0
      simpa using this
    case round =>
      obtain ⟨pos, fuel, acc, hI, hit, hbw, hacc, hfu, hal⟩ := hrel
      have HA := Lib.hid hANS
      clear hANS
      have hsz : w2.heap.size + 1 < wr.heap.size := (Array.getElem?_eq_some_iff.1 hit).1
      by_cases hp : pos < s.size
      · have hnx : ∀ ty, (Instr.next (.pointer (some ⟨w2.heap.size + 1, 0, none⟩)) true ty).run Tryz.prog wr = _ := fun ty => Lib.run_next_any_at wr (w2.heap.size + 1) s pos ty hit hp
        have hwd := width_pos s pos hp
        have hd1 := decode_le s pos
        have hI2 := hI.iterAt hit (pos + (Utf8.decode s pos).2)
        have hit2 := Lib.iterAt_heap wr (w2.heap.size + 1) s pos (pos + (Utf8.decode s pos).2) hit
        have hbw2 := Lib.below_iterAt hbw (k := w2.heap.size + 1) (by omega) s (pos + (Utf8.decode s pos).2)
        have hsz2 : w2.heap.size ≤ (wr.iterAt (w2.heap.size + 1) s (pos + (Utf8.decode s pos).2)).heap.size := by rw [Lib.iterAt_size]; omega
        obtain ⟨f, rfl⟩ : ∃ f, fuel = f + 1 := ⟨fuel - 1, by omega⟩
        have hstep : halfFrom s (f + 1) pos = halfC (Utf8.decode s pos).1 ++ halfFrom s f (pos + (Utf8.decode s pos).2) := by simp [halfFrom, hp]
        have hl6 := halfC_len ((Utf8.decode s pos).1 : Int)
        have hm4 : (wr.iterAt (w2.heap.size + 1) s (pos + (Utf8.decode s pos).2)).heap[mb]? = some (.map formsEs 87) := (hbw2.block mb hm2).trans hm3
        have hlk := run_lookup_tab (P := Tryz.prog) (t := 53) Tryz.underlying53 Tryz.underlying21 (zero9 _) hm4 forms_tab (kataF ((Utf8.decode s pos).1 : Int))
        have hkat := Tryz.kata25 ((Utf8.decode s pos).1 : Int)
        rw [hstep] at hacc
        have HACC := Lib.hid hacc
        clear hacc hstep hm4
        cases hq : formsT.lookup (kataF ((Utf8.decode s pos).1 : Int)) with
        | some h =>
          rw [hq] at hlk
          simp only [Option.getD_some, Option.isSome_some] at hlk
          have hhc : halfC ((Utf8.decode s pos).1 : Int) = h.data.toList := by unfold halfC; rw [hq]
          rw [hhc] at hl6
          have HH := Lib.hid hhc
          clear hhc hq
          go_wp2_with (first
            | (go_at_call 32; refine (hkat _).mono ?_; rintro e w' ⟨rfl, rfl⟩)
            | (go_at_call 26; refine (Tryz.Builder_WriteString_k w2.heap.size w2.heap.size _ h _ hI2 (by rw [Lib.byteCells_length]; simp at hl6; omega) hsz2).mono ?_; rintro e W1 ⟨rfl, h1, b1, k1⟩))
          go_roundw
          case rel =>
            refine ⟨pos + (Utf8.decode s pos).2, f, acc ++ h.data.toList, ?_, k1.iter hit2 (by omega), hbw2.trans b1, ?_, by omega, by simp at hl6 ⊢; omega⟩
            · rw [Lib.byteCells_append]; exact Or.inr h1
            · rw [← HACC.out, HH.out, List.append_assoc]
          case measure =>
            simp only [World.iterPos, k1.iter hit2 (by omega), hit]
            omega
        | none =>
          rw [hq] at hlk
          simp only [Option.getD_none, Option.isSome_none] at hlk
          have hhc : halfC ((Utf8.decode s pos).1 : Int) = Lib.encodeRune (Utf8.decode s pos).1 := by unfold halfC; rw [hq]
          rw [hhc] at hl6
          have HH := Lib.hid hhc
          clear hhc hq
          go_wp2_with (first
            | (go_at_call 32; refine (hkat _).mono ?_; rintro e w' ⟨rfl, rfl⟩)
            | (go_at_call 27; refine (Tryz.Builder_WriteRune_k w2.heap.size w2.heap.size _ _ (by omega) (by omega) _ hI2 (by rw [Lib.byteCells_length]; omega) hsz2).mono ?_; rintro e W1 ⟨rfl, h1, b1, k1⟩))
          go_roundw
          case rel =>
            refine ⟨pos + (Utf8.decode s pos).2, f, acc ++ Lib.encodeRune (Utf8.decode s pos).1, ?_, k1.iter hit2 (by omega), hbw2.trans b1, ?_, by omega, by simp; omega⟩
            · rw [Lib.byteCells_append, Lib.byteCells_encodeRune]; exact Or.inr h1
            · rw [← HACC.out, HH.out, List.append_assoc]
          case measure =>
            simp only [World.iterPos, k1.iter hit2 (by omega), hit]
            omega
      · have hnx : ∀ ty, (Instr.next (.pointer (some ⟨w2.heap.size + 1, 0, none⟩)) true ty).run Tryz.prog wr = _ := fun ty => Lib.run_next_end_at wr (w2.heap.size + 1) s pos ty hit hp
        have HACC := Lib.hid hacc
        clear hacc
        go_wp2_with (go_at_call 28; refine (Tryz.Builder_String_any_k w2.heap.size w2.heap.size acc _ hI (by omega)).mono ?_; rintro e W1 ⟨rfl, _, b1, _⟩)
        go_ret
        have ha : acc = ANS := by rw [← HACC.out, halfFrom_end s fuel pos hp, List.append_nil]
        refine ⟨?_, hb1.trans ((hb2.trans ((hbw.trans b1).mono hb2.size)).mono hb1.size)⟩
        rw [← H.out, halfS, if_pos HV.out, HA.out, ha]
        rfl
end Go.Proofs
end

section
/-
  The program's package kana: Full: the table is turned round.
-/
namespace Go.Proofs
open Go.RowKit Go.Shelf Go.Lib Go.MapKept

/-- A block's object laid anew. -/
def putObj (w : World) (r : Nat) (o : Obj) : World := { w with heap := w.heap.setIfInBounds r o }
theorem putObj_same {w : World} {r : Nat} (o : Obj) (h : r < w.heap.size) : (putObj w r o).heap[r]? = some o := by simp [putObj, h]
theorem putObj_other {w : World} {r k : Nat} (o : Obj) (h : k ≠ r) : (putObj w r o).heap[k]? = w.heap[k]? := by
  simp only [putObj]
  rw [Array.getElem?_setIfInBounds_ne (fun e => h e.symm)]
theorem putObj_size (w : World) (r : Nat) (o : Obj) : (putObj w r o).heap.size = w.heap.size := by simp [putObj]
theorem putObj_alloc {w : World} {r : Nat} (o x : Obj) (h : r < w.heap.size) : putObj (w.alloc x) r o = (putObj w r o).alloc x := by
  have e : (w.heap.push x).setIfInBounds r o = (w.heap.setIfInBounds r o).push x := by
    apply Array.ext_getElem?
    intro i
    rw [Array.getElem?_setIfInBounds, Array.getElem?_push, Array.getElem?_push, Array.getElem?_setIfInBounds]
    simp only [Array.size_push, Array.size_setIfInBounds]
    by_cases hi : r = i
    · subst hi
      have h1 : r ≠ w.heap.size := by omega
      have h2 : r < w.heap.size + 1 := by omega
      simp [h, h1, h2]
    · simp [hi]
  show ({ w with heap := (w.heap.push x).setIfInBounds r o } : World) = _
  rw [e]
  rfl
theorem run_setObj_put {P : Program} {w : World} {r : Nat} {o : Obj} {es : Array MapEntry} {ck : Nat} (h : w.heap[r]? = some (.map es ck)) : (setObj r o).run P w = .ok () (putObj w r o) := by
  simp [setObj, Sem.run, h, putObj]

section
variable {P : Program} {t kt et : TypeId} {W : World} {mb ck : Nat} {es : Array MapEntry}
theorem run_mapUpdate_new (hd : P.underlying t = some (.map kt et)) (hk : P.underlying kt = some .string) (hW : W.heap[mb]? = some (.map es ck))
    {l : List (ByteArray × ByteArray)} (hl : es.toList.map (fun e => (e.key, e.val)) = l.map (fun p => (Value.string p.1, Value.string p.2))) {k : ByteArray} (hno : l.lookup k = none) (v : Value) :
    (Instr.mapUpdate t (.map (some mb)) (.string k) v).run P W = .ok () (putObj W mb (.map (es.push ⟨.string k, v, ck⟩) (ck + 1))) := by
  obtain ⟨r, r1, r2⟩ := findNow_tabS k l es.toList 0 hl
  rw [hno] at r2
  have : r = none := by cases r with | none => rfl | some x => simp at r2
  subst this
  have hf := run_findKey (P := P) (w := W) hk r1
  have hc := run_checkKey (P := P) (w := W) (k := .string k) hk (by simp [IsKey]) false 9999
  simp only [Instr.mapUpdate, Sem.run_bind, run_underlying hd, Result.andThen_ok, run_getObj_mapK hW, hc, hf, run_setObj_put hW]
end

/-- The sound marks by themselves. -/
def marksT : List (ByteArray × ByteArray) := [(⟨#[239, 190, 158]⟩, ⟨#[227, 130, 155]⟩), (⟨#[239, 190, 159]⟩, ⟨#[227, 130, 156]⟩)]
/-- What an entry of 'forms' becomes. -/
def invE (e : MapEntry) : ByteArray × ByteArray := match e.key, e.val with
  | .int _ c, .string h => (h, Utf8.encode c)
  | _, _ => (.empty, .empty)
def fullT : List (ByteArray × ByteArray) := marksT ++ formsEs.toList.map invE
/-- What holds of the table after the entries D. -/
def TabAfter (W : World) (fb : Nat) (D : List MapEntry) : Prop :=
  ∃ es ck, W.heap[fb]? = some (.map es ck) ∧ es.toList.map (fun e => (e.key, e.val)) = (marksT ++ D.map invE).map (fun p => (Value.string p.1, Value.string p.2))
theorem inv_keys : (fullT.map (·.1)).Nodup := by decide +kernel
theorem forms_shape : ∀ e ∈ formsEs.toList, ∃ c h, e.key = .int .i32 c ∧ e.val = .string h ∧ 0 ≤ c ∧ c ≤ 65535 := by
  intro e he
  have h1 : e ∈ formsT.zipIdx.map (fun p => (⟨.int .i32 p.1.1, .string p.1.2, p.2⟩ : MapEntry)) := he
  obtain ⟨p, hp, rfl⟩ := List.mem_map.1 h1
  have : ∀ p ∈ formsT.zipIdx, 0 ≤ p.1.1 ∧ p.1.1 ≤ 65535 := by decide
  exact ⟨_, _, rfl, rfl, this p hp⟩
theorem forms_born : (formsEs.toList.map (·.born)).Nodup := by decide +kernel
theorem forms_old : ∀ e ∈ formsEs.toList, e.born < 87 := by decide +kernel
theorem ba_beq (k a : ByteArray) : (k == a) = decide (k = a) := by
  cases k with | mk k =>
  cases a with | mk a =>
  show (k == a) = _
  rw [Bool.eq_iff_iff]; simp
theorem lookup_none_of {l : List (ByteArray × ByteArray)} {k : ByteArray} (h : k ∉ l.map (·.1)) : l.lookup k = none := by
  induction l with
  | nil => rfl
  | cons p l ih =>
    obtain ⟨a, s⟩ := p
    simp only [List.map_cons, List.mem_cons, not_or] at h
    simp only [List.lookup]
    have : (k == a) = false := by rw [ba_beq]; simpa using h.1
    rw [this]
    exact ih h.2
/-- An entry that has not come yet has a key of its own. -/
theorem fresh_key {D : List MapEntry} {e : MapEntry} (hD : ∀ x ∈ D, x ∈ formsEs.toList) (he : e ∈ formsEs.toList) (hn : e ∉ D) : (marksT ++ D.map invE).lookup (invE e).1 = none := by
  apply lookup_none_of
  have hnd := inv_keys
  unfold fullT at hnd
  rw [List.map_append, List.map_map, List.nodup_append] at hnd
  obtain ⟨_, h2, h3⟩ := hnd
  intro hm
  rw [List.map_append, List.mem_append, List.map_map] at hm
  rcases hm with hm | hm
  · exact h3 _ hm _ (List.mem_map.2 ⟨e, he, rfl⟩) rfl
  · obtain ⟨x, hx, hxe⟩ := List.mem_map.1 hm
    have hinj : ∀ (l : List MapEntry), (l.map ((fun p : ByteArray × ByteArray => p.1) ∘ invE)).Nodup → ∀ x ∈ l, ∀ y ∈ l, (invE x).1 = (invE y).1 → x = y := by
      intro l
      induction l with
      | nil => intro _ x hx; cases hx
      | cons z l ih =>
        intro hnd x hx y hy hxy
        rw [List.map_cons, List.nodup_cons] at hnd
        obtain ⟨n1, n2⟩ := hnd
        rcases List.mem_cons.1 hx with hx | hx
        · rcases List.mem_cons.1 hy with hy | hy
          · rw [hx, hy]
          · exact absurd (List.mem_map.2 ⟨y, hy, by rw [← hx]; exact hxy.symm⟩) n1
        · rcases List.mem_cons.1 hy with hy | hy
          · exact absurd (List.mem_map.2 ⟨x, hx, by rw [← hy]; exact hxy⟩) n1
          · exact ih n2 x hx y hy hxy
    have := hinj _ h2 x (hD x hx) e he hxe
    exact hn (this ▸ hx)
section
variable {P : Program}
theorem choose_tape (q : Question) (W : World) : ∃ j W2, (choose q).run P W = .ok j W2 ∧ W2.tape = W.tape := by
  simp only [choose, Sem.run]
  split
  · exact ⟨_, _, rfl, rfl⟩
  · exact ⟨_, _, rfl, rfl⟩
theorem setObj_tape {r : Nat} {o : Obj} {W W' : World} (h : (setObj r o).run P W = .ok () W') : W'.tape = W.tape := by
  simp only [setObj, Sem.run] at h
  split at h
  · cases h
  · cases h; rfl
  · cases h
theorem bind_tape {β : Type} {q : Question} {k : Nat → Sem β} {W W' : World} {v : β} (h : (choose q >>= k).run P W = .ok v W') : ∃ j W2, W2.tape = W.tape ∧ (k j).run P W2 = .ok v W' := by
  rw [Sem.run_bind] at h
  obtain ⟨j, W2, e1, e2⟩ := choose_tape (P := P) q W
  rw [e1] at h
  exact ⟨j, W2, e2, h⟩
theorem set_bind_tape {β : Type} {r : Nat} {o : Obj} {k : Unit → Sem β} {W W' : World} {v : β} (h : (setObj r o >>= k).run P W = .ok v W') : ∃ W2, W2.tape = W.tape ∧ (k ()).run P W2 = .ok v W' := by
  rw [Sem.run_bind] at h
  cases hs : (setObj r o : Sem Unit).run P W with
  | ok u W2 => rw [hs] at h; exact ⟨W2, setObj_tape hs, h⟩
  | halt x y => rw [hs] at h; cases h
/-- A step of a range over a map leaves the tape. -/
theorem next_tape {r m since last clock : Nat} {seen : Array Nat} {es : Array MapEntry} {ty : TypeId} {W W' : World} {v : Value} (h1 : W.heap[r]? = some (.mapIter (some m) since seen last)) (h2 : W.heap[m]? = some (.map es clock))
    (h : (Instr.next (.pointer (some ⟨r, 0, none⟩)) false ty).run P W = .ok v W') : W'.tape = W.tape := by
  have g1 : (getObj r).run P W = .ok (.mapIter (some m) since seen last) W := by simp [getObj, Sem.run, h1]
  simp only [Instr.next, Sem.run_bind, g1, run_getObj_mapK h2, Result.andThen_ok] at h
  split at h
  · simp [unsupported, Sem.run, Result.andThen] at h
  · obtain ⟨j, W2, e2, h⟩ := bind_tape h
    rw [← e2]
    clear e2
    revert h
    split
    · intro h
      obtain ⟨W3, e3, h⟩ := set_bind_tape h
      rw [← e3]
      cases h; rfl
    · intro h; cases h; rfl
    · intro h; simp [stuck] at h
end
end Go.Proofs
end

section
/-
  The program's package kana: what Full writes, rune by rune.
-/
namespace Go.Proofs
open Go.RowKit Go.Shelf Go.Lib Go.MapKept
theorem putObj_top (w : World) (o x : Obj) : putObj (w.alloc x) w.heap.size o = w.alloc o := by
  have : (w.heap.push x).setIfInBounds w.heap.size o = w.heap.push o := by
    apply Array.toList_inj.1
    simp
  show ({ w with heap := (w.heap.push x).setIfInBounds w.heap.size o } : World) = _
  rw [this]; rfl
def mk1 : MapEntry := ⟨.string ⟨#[239, 190, 158]⟩, .string ⟨#[227, 130, 155]⟩, 0⟩
def mk2 : MapEntry := ⟨.string ⟨#[239, 190, 159]⟩, .string ⟨#[227, 130, 156]⟩, 1⟩
theorem Tryz.ins1 (w : World) : (Instr.mapUpdate 52 (.map (some w.heap.size)) (.string ⟨#[239, 190, 158]⟩) (.string ⟨#[227, 130, 155]⟩)).run Tryz.prog (w.alloc (.map #[] 0)) = .ok () (w.alloc (.map #[mk1] 1)) := by
  have h := run_mapUpdate_new (P := Tryz.prog) (t := 52) Tryz.underlying52 Tryz.underlying9 (W := w.alloc (.map #[] 0)) (mb := w.heap.size) (es := #[]) (ck := 0) (MapKept.heap_alloc w _).1 (l := []) rfl (k := ⟨#[239, 190, 158]⟩) rfl (.string ⟨#[227, 130, 155]⟩)
  rw [putObj_top] at h
  exact h
theorem Tryz.ins2 (w : World) : (Instr.mapUpdate 52 (.map (some w.heap.size)) (.string ⟨#[239, 190, 159]⟩) (.string ⟨#[227, 130, 156]⟩)).run Tryz.prog (w.alloc (.map #[mk1] 1)) = .ok () (w.alloc (.map #[mk1, mk2] 2)) := by
  have h := run_mapUpdate_new (P := Tryz.prog) (t := 52) Tryz.underlying52 Tryz.underlying9 (W := w.alloc (.map #[mk1] 1)) (mb := w.heap.size) (es := #[mk1]) (ck := 1) (MapKept.heap_alloc w _).1 (l := [(⟨#[239, 190, 158]⟩, ⟨#[227, 130, 155]⟩)]) rfl (k := ⟨#[239, 190, 159]⟩) (by decide) (.string ⟨#[227, 130, 156]⟩)
  rw [putObj_top] at h
  exact h


/-! ### the runes of a string; what Full writes for them -/
def runesGo (s : ByteArray) : Nat → Nat → List Int
  | 0, _ => []
  | f + 1, pos => if pos < s.size then ((Utf8.decode s pos).1 : Int) :: runesGo s f (pos + (Utf8.decode s pos).2) else []
def runesL (s : ByteArray) : List Int := runesGo s s.size 0
theorem runesFrom_eq (s : ByteArray) : ∀ (f pos : Nat) (acc : Array Value), Conv.runesFrom s f pos acc = acc ++ ((runesGo s f pos).map (Value.int .i32)).toArray
  | 0, _, acc => by simp [Conv.runesFrom, runesGo]
  | f + 1, pos, acc => by
    unfold Conv.runesFrom runesGo
    by_cases h : pos < s.size
    · rw [if_pos h, if_pos h]
      have e := runesFrom_eq s f (pos + (Utf8.decode s pos).2) (acc.push (.int .i32 (Utf8.decode s pos).1))
      generalize Utf8.decode s pos = q at e ⊢
      refine Eq.trans e ?_
      apply Array.ext'
      simp
    · rw [if_neg h, if_neg h]; simp
theorem runesGo_len (s : ByteArray) : ∀ (f pos : Nat), (runesGo s f pos).length ≤ f
  | 0, _ => by simp [runesGo]
  | f + 1, pos => by
    have := runesGo_len s f (pos + (Utf8.decode s pos).2)
    unfold runesGo
    split <;> simp <;> omega
theorem runesGo_range (s : ByteArray) : ∀ (f pos : Nat), ∀ c ∈ runesGo s f pos, 0 ≤ c ∧ c ≤ 2147483647
  | 0, _ => by simp [runesGo]
  | f + 1, pos => by
    intro c hc
    unfold runesGo at hc
    split at hc
    · rcases List.mem_cons.1 hc with rfl | hc
      · have := decode_le s pos; omega
      · exact runesGo_range s f _ c hc
    · cases hc
def oneF (c : Int) : List UInt8 := match fullT.lookup (Utf8.encode c) with
  | some t => t.data.toList
  | none => Lib.encodeRune c
def fullGo : Nat → List Int → List UInt8
  | 0, _ => []
  | _, [] => []
  | f + 1, [c] => oneF c ++ fullGo f []
  | f + 1, c :: d :: l => match fullT.lookup (runesBytes [c, d]) with
    | some t => t.data.toList ++ fullGo f l
    | none => oneF c ++ fullGo f (d :: l)
def fullS (s : ByteArray) : ByteArray := if Lib.validD s.data.toList = true then ⟨(fullGo (runesL s).length (runesL s)).toArray⟩ else s
theorem lookup_mem {l : List (ByteArray × ByteArray)} {k v : ByteArray} (h : l.lookup k = some v) : (k, v) ∈ l := by
  induction l with
  | nil => cases h
  | cons p l ih =>
    obtain ⟨a, s⟩ := p
    simp only [List.lookup] at h
    split at h
    · rename_i he
      rw [ba_beq] at he
      have : k = a := by simpa using he
      cases h; rw [this]; exact List.mem_cons_self
    · exact List.mem_cons_of_mem _ (ih h)
theorem lookup_of_mem {l : List (ByteArray × ByteArray)} (hn : (l.map (·.1)).Nodup) {k v : ByteArray} (h : (k, v) ∈ l) : l.lookup k = some v := by
  induction l with
  | nil => cases h
  | cons p l ih =>
    obtain ⟨a, s⟩ := p
    rw [List.map_cons, List.nodup_cons] at hn
    simp only [List.lookup]
    rcases List.mem_cons.1 h with h1 | h1
    · cases h1
      rw [show (k == k) = true by rw [ba_beq]; simp]
    · have hne : k ≠ a := fun e => hn.1 (by subst e; exact List.mem_map.2 ⟨_, h1, rfl⟩)
      rw [show (k == a) = false by rw [ba_beq]; simpa using hne]
      exact ih hn.2 h1
theorem lookup_same {l1 l2 : List (ByteArray × ByteArray)} (hn : (l2.map (·.1)).Nodup) (h12 : ∀ p ∈ l1, p ∈ l2) (h21 : ∀ p ∈ l2, p ∈ l1) (k : ByteArray) : l1.lookup k = l2.lookup k := by
  cases h : l1.lookup k with
  | some v => exact (lookup_of_mem hn (h12 _ (lookup_mem h))).symm
  | none =>
    cases h2 : l2.lookup k with
    | none => rfl
    | some v =>
      have hm := h21 _ (lookup_mem h2)
      have : ∀ (l : List (ByteArray × ByteArray)), (k, v) ∈ l → l.lookup k ≠ none := by
        intro l
        induction l with
        | nil => intro h; cases h
        | cons p l ih =>
          obtain ⟨a, s⟩ := p
          intro hm
          simp only [List.lookup]
          rcases List.mem_cons.1 hm with hm | hm
          · cases hm; rw [show (k == k) = true by rw [ba_beq]; simp]; simp
          · split
            · simp
            · exact ih hm
      exact absurd h (this l1 hm)
/-- All entries have come: the table is whole. -/
theorem tab_whole {D : List MapEntry} {seen : Array Nat} (h0 : (leftOf formsEs seen).size = 0) (hseen : seen.toList = D.map (·.born)) (hD : ∀ x ∈ D, x ∈ formsEs.toList) (k : ByteArray) : (marksT ++ D.map invE).lookup k = fullT.lookup k := by
  refine lookup_same inv_keys (fun p hp => ?_) (fun p hp => ?_) k
  · unfold fullT
    rcases List.mem_append.1 hp with hp | hp
    · exact List.mem_append_left _ hp
    · obtain ⟨x, hx, rfl⟩ := List.mem_map.1 hp
      exact List.mem_append_right _ (List.mem_map.2 ⟨x, hD x hx, rfl⟩)
  · unfold fullT at hp
    rcases List.mem_append.1 hp with hp | hp
    · exact List.mem_append_left _ hp
    · obtain ⟨x, hx, rfl⟩ := List.mem_map.1 hp
      have hc : seen.contains x.born = true := by
        cases hcc : seen.contains x.born with
        | true => rfl
        | false =>
          have : x ∈ leftOf formsEs seen := Array.mem_filter.2 ⟨Array.mem_toList_iff.1 hx, by rw [hcc]; rfl⟩
          have := Array.size_pos_of_mem this
          omega
      have hm : x.born ∈ D.map (·.born) := by
        rw [← hseen]
        rw [Array.contains_eq_mem] at hc
        simpa using hc
      obtain ⟨y, hy, hxy⟩ := List.mem_map.1 hm
      have e1 := find_born x formsEs.toList forms_born hx
      have e2 := find_born y formsEs.toList forms_born (hD y hy)
      rw [hxy, e1] at e2
      have : x = y := Option.some.inj e2
      subst this
      exact List.mem_append_right _ (List.mem_map.2 ⟨x, hy, rfl⟩)
end Go.Proofs
end

section
/-
  The program's package kana: Full.
-/
namespace Go.Proofs
open Go.RowKit Go.Shelf Go.Lib Go.MapKept
theorem fullT_len {k t : ByteArray} (h : fullT.lookup k = some t) : t.data.toList.length ≤ 6 := by
  have : ∀ p ∈ fullT, p.2.data.toList.length ≤ 6 := by decide +kernel
  exact this _ (lookup_mem h)
theorem fullGo_nil (f : Nat) : fullGo f [] = [] := by cases f <;> rfl
theorem getD_split {L l : List Int} {k : Nat} {c : Int} (h : L = L.take k ++ c :: l) (hk : k < L.length) : L.getD k 0 = c := by
  rw [h, List.getD_eq_getElem?_getD, List.getElem?_append_right (by simp [Nat.min_eq_left (Nat.le_of_lt hk)])]
  simp [Nat.min_eq_left (Nat.le_of_lt hk)]
theorem split_next {L l : List Int} {k : Nat} {c : Int} (h : L = L.take k ++ c :: l) (hk : k < L.length) : L = L.take (k + 1) ++ l := by
  have hg := getD_split h hk
  rw [List.getD_eq_getElem?_getD, List.getElem?_eq_getElem hk] at hg
  simp at hg
  rw [List.take_add_one, List.getElem?_eq_getElem hk, hg]
  simpa using h
theorem fullGo_one (f : Nat) (c : Int) : fullGo (f + 1) [c] = oneF c ++ fullGo f [] := rfl
theorem fullGo_two (f : Nat) (c d : Int) (l : List Int) (h : fullT.lookup (runesBytes [c, d]) = none) : fullGo (f + 1) (c :: d :: l) = oneF c ++ fullGo f (d :: l) := by
  rw [fullGo, h]
theorem fullGo_pair (f : Nat) (c d : Int) (l : List Int) (t : ByteArray) (h : fullT.lookup (runesBytes [c, d]) = some t) : fullGo (f + 1) (c :: d :: l) = t.data.toList ++ fullGo f l := by
  rw [fullGo, h]

set_option maxHeartbeats 4000000 in
set_option maxRecDepth 1000000 in
theorem Tryz.full6t {nF : Nat} (hF : Tryz.Forms nF) (s : ByteArray) (w : World) (hn : nF ≤ w.heap.size) (hs : s.size ≤ 17592186044416) (hT : Lib.Utf8Tabs 0 1 w) (hv : Lib.validD s.data.toList = true) :
    Calls Tryz.prog 8 #[.string s] w fun e w' => e = .returned (.string ⟨(fullGo (runesL s).length (runesL s)).toArray⟩) ∧ Below w.heap.size w w' := by
  have h17 := Tryz.valid17 s w (by omega) hT
  rw [hv] at h17
  clear hv hT
  obtain ⟨L, hL⟩ : ∃ L, runesL s = L := ⟨_, rfl⟩
  have hLr : ∀ c ∈ L, 0 ≤ c ∧ c ≤ 2147483647 := by rw [← hL]; exact runesGo_range s _ _
  have hLl : L.length ≤ s.size := by rw [← hL]; exact runesGo_len s _ _
  have hRE : Conv.runesFrom s s.size 0 #[] = (L.map (Value.int .i32)).toArray := by rw [runesFrom_eq]; simp [← hL, runesL]
  rw [hL]
  clear hL
  obtain ⟨ANS, hANS⟩ : ∃ A, fullGo L.length L = A := ⟨_, rfl⟩
  rw [hANS]
  have HANS := Lib.hid hANS
  clear hANS
  have hmm := @run_makeMap Tryz.prog
  have hi1 := Tryz.ins1
  have hi2 := Tryz.ins2
  go_enter Tryz.func8, Tryz.ntmps8
  go_wp2_with (first
    | (go_at_call 24; refine h17.mono ?_; rintro e w1 ⟨rfl, hb1⟩)
    | (go_at_call 25; refine (hF _ (by have := hb1.size; first | omega | (simp; omega))).mono ?_; rintro e w2 ⟨mb, rfl, hm1, hm2, hm3, hb2⟩; have hrg := run_range_map (P := Tryz.prog) w2 53 21 9 mb formsEs 87 Tryz.underlying53 hm3))
  clear hmm hi1 hi2 hrg h17 hF
  have hz1 : w1.heap.size + 1 ≤ w2.heap.size := by have := hb2.size; simpa using this
  have hz2 : w1.heap.size < mb := by have := hm1; simp at this; omega
  have hfb : w2.heap[w1.heap.size]? = some (.map #[mk1, mk2] 2) := (hb2.block w1.heap.size (by simp)).trans (MapKept.heap_alloc w1 _).1
  have hb3 : Below w1.heap.size w1 w2 := ((Below.refl _ w1).alloc (Nat.le_refl _) _).trans (hb2.mono (by simp))
  go_loopw [] (fun wr => ∃ (wk : World) (seen : Array Nat) (D : List MapEntry) (c0 : Nat), wr = wk.alloc (.mapIter (some mb) 87 seen c0) ∧ 87 ≤ c0 ∧ wk.heap.size = w2.heap.size ∧ TabAfter wk w1.heap.size D ∧ wk.heap[mb]? = some (.map formsEs 87) ∧ Below w1.heap.size w1 wk ∧ seen.toList = D.map (·.born) ∧ (∀ x ∈ D, x ∈ formsEs.toList))
    (fun wr => (leftOf formsEs (wr.iterSeen w2.heap.size)).size)
  case atStart => exact ⟨w2, #[], [], 87, rfl, Nat.le_refl _, rfl, ⟨_, _, hfb, by simp [marksT, mk1, mk2]⟩, hm3, hb3, rfl, fun x hx => by cases hx⟩
  case round =>
    obtain ⟨wk, seen, D, c0, rfl, hc0, hks, hTab, hkm, hkb, hseen, hD⟩ := hrel
    have hiter : (wk.alloc (.mapIter (some mb) 87 seen c0)).heap[wk.heap.size]? = some (.mapIter (some mb) 87 seen c0) := (MapKept.heap_alloc wk _).1
    have hmw : (wk.alloc (.mapIter (some mb) 87 seen c0)).heap[mb]? = some (.map formsEs 87) := (heap_alloc_old wk _ (by omega)).trans hkm
    rcases run_next_map (P := Tryz.prog) wk 0 mb 87 c0 seen formsEs 87 hkm forms_old hc0 with ⟨h0, hrun⟩ | ⟨en, he, wn, hal, hrun⟩
    · -- all have come
      rw [hks] at hrun
      have H0 := Lib.hid h0
      clear h0 hiter hmw
      have hW : ∃ W0, W0 = wk.alloc (.mapIter (some mb) 87 seen c0) := ⟨_, rfl⟩
      obtain ⟨W0, hW0⟩ := hW
      have hz0 : W0.heap.size = w2.heap.size + 1 := by rw [hW0]; simp [hks]
      have hf0 : ∃ es ck, W0.heap[w1.heap.size]? = some (.map es ck) ∧ es.toList.map (fun e => (e.key, e.val)) = (marksT ++ D.map invE).map (fun p => (Value.string p.1, Value.string p.2)) := by
        obtain ⟨es, ck, h1, h2⟩ := hTab
        exact ⟨es, ck, by rw [hW0, heap_alloc_old wk _ (by omega)]; exact h1, h2⟩
      have hb0 : Below w1.heap.size w1 W0 := by rw [hW0]; exact hkb.alloc (by omega) _
      have hwhole := tab_whole H0.out hseen hD
      rw [← hW0] at hrun ⊢
      clear hW0 hTab hkm hkb hseen hD H0 hks
      have hrn : ∀ W, (convert 9 55 (.string s)).run Tryz.prog W = _ := fun W => run_runes_of_string W 9 55 21 s Tryz.underlying9 Tryz.underlying55 Tryz.underlying21 (by have := size_runesFrom s s.size 0 #[]; simp at this; omega)
      obtain ⟨cp, hcp⟩ : ∃ cp, grownCap W0 L.length 0 21 = cp := ⟨_, rfl⟩
      have hcpl : L.length ≤ cp := by rw [← hcp]; exact grownCap_ge W0 _ 0 21
      have hrn0 := hrn W0
      rw [hRE] at hrn0
      simp only [List.size_toArray, List.length_map, hcp] at hrn0
      rw [hz0] at hrn0
      clear hrn hRE
      go_wp2
      obtain ⟨CS, hCS⟩ : ∃ cs, (List.map (Value.int IntKind.i32) L).toArray ++ Array.replicate (cp - L.length) (Value.int IntKind.i32 0) = cs := ⟨_, rfl⟩
      obtain ⟨Wr, hWr⟩ : ∃ W, W = (W0.alloc (.cells CS 21)) := ⟨_, rfl⟩
      have hzr : Wr.heap.size = w2.heap.size + 1 + 1 := by rw [hWr]; simp [hz0]
      have hrow : Wr.heap[w2.heap.size + 1]? = some (.cells CS 21) := by rw [hWr, ← hz0]; exact (MapKept.heap_alloc W0 _).1
      have hbr : Below w1.heap.size w1 Wr := by rw [hWr]; exact hb0.alloc (by omega) _
      obtain ⟨es, ck, hf1, hl1⟩ := hf0
      have hfr : Wr.heap[w1.heap.size]? = some (.map es ck) := by rw [hWr, heap_alloc_old W0 _ (by omega)]; exact hf1
      have hcs : ∀ j, j < L.length → CS[j]? = some (.int .i32 (L.getD j 0)) := by
        intro j hj
        rw [← hCS, Array.getElem?_append_left (by simpa using hj)]
        simp [List.getD, List.getElem?_eq_getElem hj]
      rw [hCS, ← hWr]
      clear hCS hrn0 hWr hf1 hb0
      go_loopw [8] (fun v8 wr => ∃ (k f : Nat) (l : List Int) (acc : List UInt8), v8 = .int .i64 k ∧ L = L.take k ++ l ∧ k + l.length = L.length ∧ l.length ≤ f ∧ acc ++ fullGo f l = ANS ∧ acc.length ≤ 6 * k ∧ Lib.IsBuilderF 59 5 Wr.heap.size (w2.heap.size + 1 + 1) (Lib.byteCells acc) wr ∧ Below Wr.heap.size Wr wr)
        (fun v8 wr => 2 * L.length - (match v8 with | .int _ n => n.toNat | _ => 0))
      case atStart =>
        refine ⟨0, L.length, L, [], rfl, by simp, by simp, Nat.le_refl _, by rw [HANS.out]; rfl, by simp, ?_, ((Below.refl _ Wr).alloc (Nat.le_refl _) _).drew⟩
        have := (Lib.IsBuilderF.of (Lib.fresh_isBuilder 59 5 Wr))
        rw [hzr] at this ⊢
        exact this
      case round =>
        obtain ⟨k, f, l, acc, rfl, hLk, hkl, hlf, hacc, hal, hI, hbw⟩ := hrel
        have hfw : wr.heap[w1.heap.size]? = some (.map es ck) := (hbw.block _ (by omega)).trans hfr
        have hrw : wr.heap[w2.heap.size + 1]? = some (.cells CS 21) := (hbw.block _ (by omega)).trans hrow
        have hcw : ∀ j, j < L.length → wr.cell? ⟨w2.heap.size + 1, j, none⟩ = some (.int .i32 (L.getD j 0)) := by
          intro j hj
          simp [World.cell?, hrw, hcs j hj]
        have hBz := hbw.size
        have HROW := Lib.hid hrw
        have HLK := Lib.hid hLk
        have HACC := Lib.hid hacc
        clear hrw hacc hLk
        have hlen44 : L.length ≤ 17592186044416 := by omega
        rcases l with _ | ⟨c, l⟩
        · -- the end
          simp only [List.length_nil, Nat.add_zero] at hkl
          have hI' := hI
          go_wp2_with (go_at_call 28; refine (Tryz.Builder_String_any_k Wr.heap.size (w2.heap.size + 1 + 1) acc _ hI hBz).mono ?_; rintro e W1 ⟨rfl, _, b1, _⟩)
          go_ret
          have ha : acc = ANS := by rw [← HACC.out, fullGo_nil, List.append_nil]
          refine ⟨by rw [ha]; rfl, hb1.trans ((hbr.trans ((hbw.trans b1).mono hbr.size)).mono hb1.size)⟩
        · have hkL : k < L.length := by simp only [List.length_cons] at hkl; omega
          have hck : L.getD k 0 = c := getD_split HLK.out hkL
          have hc1 := hcw k hkL
          rw [hck] at hc1
          have hcr := hLr c (by rw [HLK.out]; simp)
          have HCW := Lib.hid hcw
          clear hcw hck
          have hlk1 := run_lookup_tabS (P := Tryz.prog) (t := 52) Tryz.underlying52 Tryz.underlying9 (zero9 wr) hfw hl1 (Utf8.encode c)
          rw [hwhole] at hlk1
          rcases l with _ | ⟨d, l⟩
          · have hkl1 : k + 1 = L.length := by simpa using hkl
            obtain ⟨f, rfl⟩ : ∃ g, f = g + 1 := ⟨f - 1, by simp at hlf; omega⟩
            cases hq : fullT.lookup (Utf8.encode c) with
            | some t =>
              have hone : oneF c = t.data.toList := by unfold oneF; rw [hq]
              have HONE := Lib.hid hone
              have htl := fullT_len hq
              rw [hq] at hlk1
              simp only [Option.getD_some, Option.isSome_some] at hlk1
              clear hq hone
              go_wp2_with (go_at_call 26; refine (Tryz.Builder_WriteString_k Wr.heap.size (w2.heap.size + 1 + 1) _ t _ hI (by rw [Lib.byteCells_length]; simp at htl; omega) hBz).mono ?_; rintro e W1 ⟨rfl, h1, b1, k1⟩)
              go_roundw
              case rel =>
                refine ⟨k + 1, f, [], acc ++ t.data.toList, by simp, split_next HLK.out hkL, by have := hkl; simp only [List.length_cons, List.length_nil] at this ⊢; omega, by have := hlf; simp only [List.length_cons, List.length_nil] at this ⊢; omega, ?_, by simp at htl ⊢; omega, ?_, hbw.trans b1⟩
                · rw [← HACC.out, fullGo_one, HONE.out, List.append_assoc]
                · rw [Lib.byteCells_append]; exact Or.inr h1
              case measure => simp; omega
            | none =>
              have hone : oneF c = Lib.encodeRune c := by unfold oneF; rw [hq]
              have HONE := Lib.hid hone
              have htl := Lib.runeCells_le c
              rw [Lib.runeCells_length] at htl
              rw [hq] at hlk1
              simp only [Option.getD_none, Option.isSome_none] at hlk1
              clear hq hone
              go_wp2_with (go_at_call 27; refine (Tryz.Builder_WriteRune_k Wr.heap.size (w2.heap.size + 1 + 1) _ c (by omega) (by omega) _ hI (by rw [Lib.byteCells_length]; omega) hBz).mono ?_; rintro e W1 ⟨rfl, h1, b1, k1⟩)
              go_roundw
              case rel =>
                refine ⟨k + 1, f, [], acc ++ Lib.encodeRune c, by simp, split_next HLK.out hkL, by have := hkl; simp only [List.length_cons, List.length_nil] at this ⊢; omega, by have := hlf; simp only [List.length_cons, List.length_nil] at this ⊢; omega, ?_, by simp; omega, ?_, hbw.trans b1⟩
                · rw [← HACC.out, fullGo_one, HONE.out, List.append_assoc]
                · rw [Lib.byteCells_append, Lib.byteCells_encodeRune]; exact Or.inr h1
              case measure => simp; omega
          · have hkl1 : k + 1 < L.length := by simp at hkl; omega
            obtain ⟨f, rfl⟩ : ∃ g, f = g + 1 := ⟨f - 1, by simp at hlf; omega⟩
            have hdk : L.getD (k + 1) 0 = d := getD_split (split_next HLK.out hkL) hkl1
            have hc2 := HCW.out (k + 1) hkl1
            rw [hdk] at hc2
            have hcells : ∀ j, j < [c, d].length → wr.cell? ((⟨w2.heap.size + 1, k, none⟩ : Addr).add j) = some (.int .i32 ([c, d].getD j 0)) := by
              intro j hj
              rcases j with _ | j
              · exact hc1
              · rcases j with _ | j
                · exact hc2
                · have hj2 : j + 1 + 1 < 2 := hj
                  omega
            have hconv := run_convert_runes (P := Tryz.prog) wr 55 9 21 ⟨w2.heap.size + 1, k, none⟩ 2 (cp - k) [c, d] (by simp) Tryz.underlying55 Tryz.underlying21 Tryz.underlying9 hcells
            rw [List.take_of_length_le (by simp)] at hconv
            have hlk2 := run_lookup_tabS (P := Tryz.prog) (t := 52) Tryz.underlying52 Tryz.underlying9 (zero9 wr) hfw hl1 (runesBytes [c, d])
            rw [hwhole] at hlk2
            clear hcells hdk
            cases hp : fullT.lookup (runesBytes [c, d]) with
            | some t =>
              have HP := Lib.hid hp
              have htl := fullT_len hp
              rw [hp] at hlk2
              simp only [Option.getD_some, Option.isSome_some] at hlk2
              clear hp
              go_wp2_with (go_at_call 26; refine (Tryz.Builder_WriteString_k Wr.heap.size (w2.heap.size + 1 + 1) _ t _ hI (by rw [Lib.byteCells_length]; simp at htl; omega) hBz).mono ?_; rintro e W1 ⟨rfl, h1, b1, k1⟩)
              go_roundw
              case rel =>
                refine ⟨k + 1 + 1, f, l, acc ++ t.data.toList, by simp, split_next (split_next HLK.out hkL) hkl1, by have := hkl; simp only [List.length_cons] at this ⊢; omega, by have := hlf; simp only [List.length_cons] at this ⊢; omega, ?_, by simp at htl ⊢; omega, ?_, hbw.trans b1⟩
                · rw [← HACC.out, fullGo_pair _ _ _ _ _ HP.out, List.append_assoc]
                · rw [Lib.byteCells_append]; exact Or.inr h1
              case measure => simp; omega
            | none =>
              have HP := Lib.hid hp
              rw [hp] at hlk2
              simp only [Option.getD_none, Option.isSome_none] at hlk2
              clear hp
              cases hq : fullT.lookup (Utf8.encode c) with
                | some t =>
                  have hone : oneF c = t.data.toList := by unfold oneF; rw [hq]
                  have HONE := Lib.hid hone
                  have htl := fullT_len hq
                  rw [hq] at hlk1
                  simp only [Option.getD_some, Option.isSome_some] at hlk1
                  clear hq hone
                  go_wp2_with (go_at_call 26; refine (Tryz.Builder_WriteString_k Wr.heap.size (w2.heap.size + 1 + 1) _ t _ hI (by rw [Lib.byteCells_length]; simp at htl; omega) hBz).mono ?_; rintro e W1 ⟨rfl, h1, b1, k1⟩)
                  go_roundw
                  case rel =>
                    refine ⟨k + 1, f, d :: l, acc ++ t.data.toList, by simp, split_next HLK.out hkL, by have := hkl; simp only [List.length_cons, List.length_nil] at this ⊢; omega, by have := hlf; simp only [List.length_cons, List.length_nil] at this ⊢; omega, ?_, by simp at htl ⊢; omega, ?_, hbw.trans b1⟩
                    · rw [← HACC.out, fullGo_two _ _ _ _ HP.out, HONE.out, List.append_assoc]
                    · rw [Lib.byteCells_append]; exact Or.inr h1
                  case measure => simp; omega
                | none =>
                  have hone : oneF c = Lib.encodeRune c := by unfold oneF; rw [hq]
                  have HONE := Lib.hid hone
                  have htl := Lib.runeCells_le c
                  rw [Lib.runeCells_length] at htl
                  rw [hq] at hlk1
                  simp only [Option.getD_none, Option.isSome_none] at hlk1
                  clear hq hone
                  go_wp2_with (go_at_call 27; refine (Tryz.Builder_WriteRune_k Wr.heap.size (w2.heap.size + 1 + 1) _ c (by omega) (by omega) _ hI (by rw [Lib.byteCells_length]; omega) hBz).mono ?_; rintro e W1 ⟨rfl, h1, b1, k1⟩)
                  go_roundw
                  case rel =>
                    refine ⟨k + 1, f, d :: l, acc ++ Lib.encodeRune c, by simp, split_next HLK.out hkL, by have := hkl; simp only [List.length_cons, List.length_nil] at this ⊢; omega, by have := hlf; simp only [List.length_cons, List.length_nil] at this ⊢; omega, ?_, by simp; omega, ?_, hbw.trans b1⟩
                    · rw [← HACC.out, fullGo_two _ _ _ _ HP.out, HONE.out, List.append_assoc]
                    · rw [Lib.byteCells_append, Lib.byteCells_encodeRune]; exact Or.inr h1
                  case measure => simp; omega
    · obtain ⟨hen, hnc⟩ := mem_left he
      have htape := next_tape hiter hmw hrun
      have hshr := left_shrinks formsEs seen en he
      rw [hks] at hrun
      obtain ⟨c, h, hk1, hk2, hc1, hc2⟩ := forms_shape en hen
      have hent := run_entry_map (P := Tryz.prog) wn mb 87 seen formsEs 87 en (by rw [hal.1]; exact hkm) hen forms_born
      rw [hal.1, hks] at hent
      rw [hk1, hk2] at hrun hent
      obtain ⟨es, ck, hfb2, hl2⟩ := hTab
      have hnD : en ∉ D := fun hm => by
        have : en.born ∈ seen.toList := by rw [hseen]; exact List.mem_map.2 ⟨en, hm, rfl⟩
        rw [Array.contains_eq_mem] at hnc
        simp at hnc
        exact hnc (by simpa using this)
      have hinv : invE en = (h, Utf8.encode c) := by unfold invE; rw [hk1, hk2]
      have hno := fresh_key hD hen hnD
      rw [hinv] at hno
      have hzn : wn.heap.size = w2.heap.size := by rw [hal.1]; exact hks
      have hfw : (wn.alloc (.mapIter (some mb) 87 (seen.push en.born) 87)).heap[w1.heap.size]? = some (.map es ck) := by
        rw [heap_alloc_old wn _ (by omega), hal.1]; exact hfb2
      have hmu := run_mapUpdate_new (P := Tryz.prog) (t := 52) Tryz.underlying52 Tryz.underlying9 hfw hl2 hno (.string (Utf8.encode c))
      rw [putObj_alloc _ _ (by omega)] at hmu
      have HF := Lib.hid hfb2
      have HL := Lib.hid hl2
      have HS := Lib.hid hseen
      have HT := Lib.hid htape
      have HI := Lib.hid hinv
      have HA := Lib.hid hal
      have HZ := Lib.hid hzn
      have HK := Lib.hid hkm
      have HN := Lib.hid hnc
      clear hiter hmw hfb2 hl2 hseen htape hinv hal hzn hkm hfw hno hk1 hk2 hnc
      go_wp2
      go_roundw
      case rel =>
        refine ⟨putObj wn w1.heap.size _, seen.push en.born, D ++ [en], 87, rfl, Nat.le_refl _, by rw [putObj_size]; exact HZ.out, ⟨_, _, putObj_same _ (by rw [HZ.out]; omega), ?_⟩, ?_, ?_, ?_, ?_⟩
        · rw [Array.toList_push, List.map_append, HL.out, List.map_append, List.map_append, List.map_append, List.append_assoc]
          simp [HI.out]
        · rw [putObj_other _ (by omega), HA.out.1]; exact HK.out
        · refine ⟨HA.out.2.1.trans hkb.os, ?_, HA.out.2.2.trans hkb.output, ?_, fun k hk => ?_⟩
          · have := HT.out
            simp at this
            show wn.tape = w1.tape
            rw [this]; exact hkb.tape
          · rw [putObj_size, HZ.out]; omega
          · rw [putObj_other _ (by omega), HA.out.1]; exact hkb.block k hk
        · rw [Array.toList_push, HS.out]; simp
        · intro x hx
          rcases List.mem_append.1 hx with hx | hx
          · exact hD x hx
          · rw [List.mem_singleton.1 hx]; exact hen
      case measure =>
        have e1 : (putObj wn w1.heap.size (.map (es.push ⟨.string h, .string (Utf8.encode c), ck⟩) (ck + 1))).heap.size = w2.heap.size := by rw [putObj_size]; exact HZ.out
        rw [← hks, World.iterSeen_alloc, hks, ← e1, World.iterSeen_alloc]
        exact hshr

set_option maxHeartbeats 4000000 in
set_option maxRecDepth 1000000 in
/-- Full, whole. -/
theorem Tryz.full6 {nF : Nat} (hF : Tryz.Forms nF) (s : ByteArray) (w : World) (hn : nF ≤ w.heap.size) (hs : s.size ≤ 17592186044416) (hT : Lib.Utf8Tabs 0 1 w) :
    Calls Tryz.prog 8 #[.string s] w fun e w' => e = .returned (.string (fullS s)) ∧ Below w.heap.size w w' := by
  cases hv : Lib.validD s.data.toList with
  | true =>
    have h := Tryz.full6t hF s w hn hs hT hv
    unfold fullS
    rw [if_pos hv]
    exact h
  | false =>
    have h17 := Tryz.valid17 s w (by omega) hT
    rw [hv] at h17
    have hq : fullS s = s := by unfold fullS; rw [if_neg (by rw [hv]; simp)]
    rw [hq]
    clear hv hT hq
    go_enter Tryz.func8, Tryz.ntmps8
    go_wp2_with (go_at_call 24; refine h17.mono ?_; rintro e w1 ⟨rfl, hb1⟩)
    go_ret
    exact ⟨rfl, hb1⟩
end Go.Proofs
end

section
/-
  The program's package cands: Kana.
-/
namespace Go.Proofs
open Go.RowKit Go.Shelf Go.Lib
theorem oneF_le (c : Int) : (oneF c).length ≤ 6 := by
  unfold oneF
  split
  · rename_i t h; exact fullT_len h
  · have := Lib.runeCells_le c
    rw [Lib.runeCells_length] at this
    omega
theorem fullGo_le : ∀ (f : Nat) (l : List Int), (fullGo f l).length ≤ 6 * l.length
  | 0, l => by simp [fullGo]
  | f + 1, [] => by simp [fullGo]
  | f + 1, [c] => by
    rw [fullGo_one, fullGo_nil]
    have := oneF_le c
    simp; omega
  | f + 1, c :: d :: l => by
    cases h : fullT.lookup (runesBytes [c, d]) with
    | some t =>
      rw [fullGo_pair _ _ _ _ _ h]
      have h1 := fullT_len h
      have h2 := fullGo_le f l
      simp only [List.length_append, List.length_cons] at *
      omega
    | none =>
      rw [fullGo_two _ _ _ _ h]
      have h1 := oneF_le c
      have h2 := fullGo_le f (d :: l)
      simp only [List.length_append, List.length_cons] at *
      omega
theorem fullS_le (s : ByteArray) : (fullS s).size ≤ 6 * s.size := by
  unfold fullS
  split
  · have h1 := fullGo_le (runesL s).length (runesL s)
    have h2 : (runesL s).length ≤ s.size := runesGo_len s _ _
    show (fullGo (runesL s).length (runesL s)).toArray.size ≤ _
    simp
    omega
  · omega
/-- The four texts. -/
def fourK (s : ByteArray) : List ByteArray := [eachS hiraF (fullS s), eachS kataF (fullS s), halfS s, eachS wideF s]
def dedup : List ByteArray → List ByteArray → List ByteArray
  | out, [] => out
  | out, x :: l => dedup (if Lib.containsS out x then out else out ++ [x]) l
theorem Tryz.info9 : (Tryz.prog.info? 9).map (fun i => (i.zero, i.size, i.bytes)) = some (some (.string ByteArray.empty), 1, 16) := by kernel_rfl
theorem ownsRow_base {W : World} {B B' : Nat} {e : TypeId} {z : Nat} {v : Value} {n : Nat} {xs : List Value} (h : W.ownsRow B e z v n xs) (hB : B' ≤ B) : W.ownsRow B' e z v n xs := by
  refine ⟨h.1, ?_⟩
  rcases h.2 with h0 | ⟨g, cap, cur, h1, h2, h3⟩
  · exact .inl h0
  · exact .inr ⟨g, cap, cur, h1, Nat.le_trans hB h2, h3⟩
theorem ownsRow_ge {W : World} {B : Nat} {e : TypeId} {z : Nat} {v : Value} {n : Nat} {xs : List Value} (h : W.ownsRow B e z v n xs) : ∀ k, v.ownBlock = some k → B ≤ k := by
  intro k hk
  rcases h.2 with ⟨rfl, _⟩ | ⟨g, cap, cur, rfl, h2, _⟩
  · simp [Value.ownBlock] at hk
  · simp [Value.ownBlock] at hk; omega
theorem Tryz.contains_own (B : Nat) (v : Value) (out : List ByteArray) (x : ByteArray) (w : World) (hown : w.ownsRow B 9 1 v out.length (out.map Value.string)) (hl : out.length ≤ 4) :
    Calls Tryz.prog 13 #[v, .string x] w fun e w' => e = .returned (.bool (Lib.containsS out x)) ∧ w' = w := by
  rcases hown.2 with ⟨rfl, h0⟩ | ⟨g, cap, cur, rfl, _, hg, _, _, hcz, hcur⟩
  · have : out = [] := List.length_eq_zero_iff.1 h0
    subst this
    refine (Tryz.slices_Contains_string_empty none 0 x w).mono ?_
    rintro e w' ⟨rfl, rfl⟩
    exact ⟨by rw [show Lib.containsS [] x = false by rfl], rfl⟩
  · have h := Tryz.slices_Contains_string g 0 out.length cap out x w (Nat.le_refl _) (by omega) (fun j hj => by
      have e1 : (cur.toList.take (out.length * 1))[j]? = (out.map Value.string)[j]? := by rw [hcur]
      rw [List.getElem?_take, if_pos (by omega), List.getElem?_map, List.getElem?_eq_getElem hj] at e1
      simp at e1
      simp [World.cell?, hg, e1, List.getD, List.getElem?_eq_getElem hj])
    rw [List.take_length] at h
    exact h
set_option maxHeartbeats 4000000 in
set_option maxRecDepth 1000000 in
theorem Tryz.kana3 {nF : Nat} (hF : Tryz.Forms nF) (s : ByteArray) (w : World) (hn : nF ≤ w.heap.size) (hs : s.size ≤ 4000) (hT : Lib.Utf8Tabs 0 1 w) :
    Calls Tryz.prog 5 #[.string s] w fun e w' => ∃ v, e = .returned v ∧ w'.ownsRow w.heap.size 9 1 v (dedup [] (fourK s)).length ((dedup [] (fourK s)).map Value.string) ∧ Below w.heap.size w w' := by
  obtain ⟨i0, hi, hz0, hz1, hz2⟩ := info_parts Tryz.info9
  have hfl := fullS_le s
  have c6 := Tryz.full6 hF s w hn (by omega) hT
  have c7 := fun W h => Tryz.hira7 (fullS s) W (by omega) h
  have c8 := fun W h => Tryz.kata8 (fullS s) W (by omega) h
  have c9 := fun W h hz => Tryz.half9 hF s W hz (by omega) h
  have c10 := fun W h => Tryz.wide10 s W (by omega) h
  obtain ⟨F, hFS⟩ : ∃ F, fullS s = F := ⟨_, rfl⟩
  have h4 : fourK s = [eachS hiraF F, eachS kataF F, halfS s, eachS wideF s] := by unfold fourK; rw [hFS]
  rw [h4]
  rw [hFS] at c6 c7 c8
  clear h4 hFS hfl
  obtain ⟨t1, ht1⟩ : ∃ t, eachS hiraF F = t := ⟨_, rfl⟩
  obtain ⟨t2, ht2⟩ : ∃ t, eachS kataF F = t := ⟨_, rfl⟩
  obtain ⟨t3, ht3⟩ : ∃ t, halfS s = t := ⟨_, rfl⟩
  obtain ⟨t4, ht4⟩ : ∃ t, eachS wideF s = t := ⟨_, rfl⟩
  rw [ht1] at c7
  rw [ht2] at c8
  rw [ht3] at c9
  rw [ht4] at c10
  rw [ht1, ht2, ht3, ht4]
  obtain ⟨Q4, hQ⟩ : ∃ q, [t1, t2, t3, t4] = q := ⟨_, rfl⟩
  rw [hQ]
  obtain ⟨ANS, hANS⟩ : ∃ A, dedup [] Q4 = A := ⟨_, rfl⟩
  rw [hANS]
  have HQ := Lib.hid hQ
  have HANS := Lib.hid hANS
  clear hQ hANS
  clear ht1 ht2 ht3 ht4
  go_enter Tryz.func5, Tryz.ntmps5
  go_wp2_with (first
    | (go_at_call 8; refine c6.mono ?_; rintro e w1 ⟨rfl, b1⟩; have T1 := Utf8Tabs_below hT b1)
    | (go_at_call 9; refine (c7 _ T1).mono ?_; rintro e w2 ⟨rfl, b2⟩; have T2 := Utf8Tabs_below T1 b2)
    | (go_at_call 10; refine (c8 _ T2).mono ?_; rintro e w3 ⟨rfl, b3⟩; have T3 := Utf8Tabs_below T2 b3)
    | (go_at_call 11; refine (c9 _ T3 (by have := b1.size; have := b2.size; have := b3.size; omega)).mono ?_; rintro e w4 ⟨rfl, b4⟩; have T4 := Utf8Tabs_below T3 b4)
    | (go_at_call 12; refine (c10 _ T4).mono ?_; rintro e w5 ⟨rfl, b5⟩))
  have hbb : Below w.heap.size w w5 := b1.trans ((b2.trans ((b3.trans ((b4.trans (b5.mono b4.size)).mono b3.size)).mono b2.size)).mono b1.size)
  clear T1 T2 T3 T4 b1 b2 b3 b4 b5 c6 c7 c8 c9 c10 hT
  have hql : Q4.length = 4 := by rw [← HQ.out]; rfl
  have hcell : ∀ j, j < 4 → (w5.alloc (.cells #[.string t1, .string t2, .string t3, .string t4] 9)).cell? ⟨w5.heap.size, j, none⟩ = some (.string (Q4.getD j .empty)) := by
    intro j hj
    have hh := (MapKept.heap_alloc w5 (.cells #[.string t1, .string t2, .string t3, .string t4] 9)).1
    rw [← HQ.out]
    unfold World.cell?
    rw [hh]
    rcases (by omega : j = 0 ∨ j = 1 ∨ j = 2 ∨ j = 3) with rfl | rfl | rfl | rfl <;> rfl
  have hbw : Below w.heap.size w (w5.alloc (.cells #[.string t1, .string t2, .string t3, .string t4] 9)) := hbb.alloc hbb.size _
  have hz5 : w.heap.size ≤ w5.heap.size := hbb.size
  obtain ⟨W0, hW0⟩ : ∃ W0, W0 = w5.alloc (.cells #[.string t1, .string t2, .string t3, .string t4] 9) := ⟨_, rfl⟩
  have hz0' : W0.heap.size = w5.heap.size + 1 := by rw [hW0]; simp
  rw [← hW0] at hcell hbw ⊢
  clear hW0 hbb
  go_loopw [3, 19] (fun v i wr => ∃ (k : Nat) (out rest : List ByteArray), i = .int .i64 k ∧ k + rest.length = 4 ∧ rest = Q4.drop k ∧ out.length ≤ k ∧ dedup out rest = ANS ∧ wr.ownsRow W0.heap.size 9 1 v out.length (out.map Value.string) ∧ Below W0.heap.size W0 wr)
    (fun _ i _ => 4 - (match i with | .int _ n => n.toNat | _ => 0))
  case atStart => exact ⟨0, [], Q4, rfl, by simp [hql], rfl, Nat.le_refl _, HANS.out, World.ownsRow_nil _ _ _ _, Below.refl _ _⟩
  case round =>
    obtain ⟨k, out, rest, rfl, hk, hrest, hol, hded, hown, hbr⟩ := hrel
    have HR := Lib.hid hrest
    have HD := Lib.hid hded
    have HC := Lib.hid hcell
    have hbz := hbr.size
    clear hrest hded hcell
    rcases rest with _ | ⟨x, rest⟩
    · simp only [List.length_nil, Nat.add_zero] at hk
      subst hk
      have HO := Lib.hid hown
      clear hown
      go_wp2
      go_ret
      have ha : out = ANS := by have := HD.out; simpa [dedup] using this
      refine ⟨_, rfl, ?_, hbw.trans (hbr.mono hbw.size)⟩
      rw [← ha]
      exact ownsRow_base HO.out (by have := hbw.size; omega)
    · have hk4 : k < 4 := by simp only [List.length_cons] at hk; omega
      have hx : Q4.getD k .empty = x := by
        have h1 : (Q4.drop k)[0]? = some x := by rw [← HR.out]; rfl
        rw [List.getElem?_drop] at h1
        simp at h1
        simp [List.getD, h1]
      have hck : wr.cell? ⟨w5.heap.size, k, none⟩ = some (.string x) := by
        rw [← hx, ← HC.out k hk4]
        exact hbr.cell (by show w5.heap.size < _; omega)
      have hcon := Tryz.contains_own W0.heap.size _ out x wr hown (by omega)
      cases hc : Lib.containsS out x with
      | true =>
        rw [hc] at hcon
        have HCC := Lib.hid hc
        clear hc
        go_wp2_with (go_at_call 13; refine hcon.mono ?_; rintro e w' ⟨rfl, rfl⟩)
        go_roundw
        case rel =>
          refine ⟨k + 1, out, rest, by simp, by simp only [List.length_cons] at hk; omega, by rw [← List.drop_drop, ← HR.out]; rfl, by omega, ?_, hown, hbr⟩
          rw [← HD.out, dedup, if_pos HCC.out]
        case measure => simp; omega
      | false =>
        rw [hc] at hcon
        have HCC := Lib.hid hc
        clear hc
        go_wp2_with (first
          | (go_at_call 13; refine hcon.mono ?_; rintro e w' ⟨rfl, rfl⟩)
          | (at_builtin; refine wpList_append_own _ rfl _ _ 23 rfl W0.heap.size 9 i0 (.string ByteArray.empty) 1 16 Tryz.underlying23 hi hz0 hz1 hz2 rfl (by decide) _ _ _ rfl (hown.alloc _) ⟨w'.heap.size, 0, none⟩ 1 1 [.string x] rfl rfl (cell_one_new _ _ _) (fun x hx => by simp at hx; subst hx; rfl) (by unfold maxLen; omega) (by omega) (by simp; omega) ?_; intro v' w3 hown' hgrow3 hnil3))
        go_roundw
        case rel =>
          refine ⟨k + 1, out ++ [x], rest, by simp, by simp only [List.length_cons] at hk; omega, by rw [← List.drop_drop, ← HR.out]; rfl, by simp; omega, ?_, by simpa using hown', ?_⟩
          · rw [← HD.out, dedup, if_neg (by rw [HCC.out]; simp)]
          · exact (hbr.alloc hbz _).grown hgrow3 (by simp; omega) (ownsRow_ge hown)
        case measure => simp; omega
end Go.Proofs
end
