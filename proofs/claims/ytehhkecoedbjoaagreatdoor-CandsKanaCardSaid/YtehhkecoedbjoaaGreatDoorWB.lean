/-
  The reference's characters and codes, walked.
-/
import Derived.Test.YtehhkecoedbjoaaGreatDoorWA
import Derived.Laws.AppendOwnNone
import Derived.Lib.RuneBytes
set_option linter.unusedVariables false
set_option linter.unusedSimpArgs false
set_option linter.unusedSectionVars false
section
/-
  The reference: kinds of characters, one code of a text.
-/
namespace Go.Proofs
open Go.RowKit Go.Shelf Go.Lib
theorem ret_boolK {a b : Bool} (h : a = b) : Ending.returned (.bool a) = .returned (.bool b) := by rw [h]
def btw (c lo hi : Int) : Bool := decide (lo ≤ c ∧ c ≤ hi)
theorem Tryz.between29 (c lo hi : Int) (w : World) : Calls Tryz.prog 36 #[.int .i32 c, .int .i32 lo, .int .i32 hi] w fun e w' => e = .returned (.bool (btw c lo hi)) ∧ w = w' := by
  obtain ⟨q, hq⟩ : ∃ q, btw c lo hi = q := ⟨_, rfl⟩
  rw [hq]
  have H := Lib.hid hq
  clear hq
  go_enter Tryz.func36, Tryz.ntmps36
  go_wp2
  all_goals
    go_ret
    refine ⟨ret_boolK ?_, rfl⟩
    rw [← H.out]
    unfold btw
    simp
    try omega
def chr (c : Int) : Bool := decide (0 ≤ c ∧ c ≤ 1114111 ∧ (c < 55296 ∨ 57343 < c))
theorem Tryz.character40 (c : Int) (w : World) : Calls Tryz.prog 58 #[.int .i32 c] w fun e w' => e = .returned (.bool (chr c)) ∧ w = w' := by
  obtain ⟨q, hq⟩ : ∃ q, chr c = q := ⟨_, rfl⟩
  rw [hq]
  have H := Lib.hid hq
  clear hq
  go_enter Tryz.func58, Tryz.ntmps58
  go_wp2
  all_goals
    go_ret
    refine ⟨ret_boolK ?_, rfl⟩
    rw [← H.out]
    unfold chr
    simp_all
    try omega
def lenB (b : Int) : Int × Int := if b < 128 then (1, b) else if 192 ≤ b ∧ b < 224 then (2, b - 192) else if 224 ≤ b ∧ b < 240 then (3, b - 224) else if 240 ≤ b ∧ b < 248 then (4, b - 240) else (0, 0)
theorem ret_tup {a b : Int} {p : Int × Int} (h : (a, b) = p) : Ending.returned (.tuple #[.int .i64 a, .int .i32 b]) = .returned (.tuple #[.int .i64 p.1, .int .i32 p.2]) := by rw [← h]
theorem Tryz.length52 (b : Int) (w : World) (h0 : 0 ≤ b) (h1 : b ≤ 255) : Calls Tryz.prog 101 #[.int .u8 b] w fun e w' => e = .returned (.tuple #[.int .i64 (lenB b).1, .int .i32 (lenB b).2]) ∧ w = w' := by
  obtain ⟨q, hq⟩ : ∃ q, lenB b = q := ⟨_, rfl⟩
  rw [hq]
  have H := Lib.hid hq
  clear hq
  go_enter Tryz.func101, Tryz.ntmps101
  go_wp2
  all_goals
    go_ret2
    refine ⟨ret_tup ?_, rfl⟩
    rw [← H.out]
    unfold lenB
    (repeat' split) <;> first | rfl | omega | (simp; omega) | (simp at *; omega)
theorem classOf_btw (c : Int) : classOf c = if btw c 12353 12438 = true then 1 else if btw c 12449 12534 = true ∨ c = 12540 then 2 else if btw c 65377 65439 = true then 3 else if btw c 65281 65374 = true ∨ c = 12288 then 4 else if btw c 32 126 = true then 5 else if btw c 13312 19903 = true ∨ btw c 19968 40959 = true ∨ c = 12293 then 6 else 0 := by
  unfold classOf btw
  simp only [decide_eq_true_eq]
set_option maxHeartbeats 2000000 in
theorem Tryz.class43 (c : Int) (w : World) : Calls Tryz.prog 61 #[.int .i32 c] w fun e w' => e = .returned (.int .i64 (classOf c)) ∧ w = w' := by
  obtain ⟨q, hq⟩ : ∃ q, classOf c = q := ⟨_, rfl⟩
  rw [hq]
  have H := Lib.hid hq
  clear hq
  have hb := Tryz.between29 c
  go_enter Tryz.func61, Tryz.ntmps61
  go_wp2_with (go_at_call 36; refine (hb _ _ _).mono ?_; rintro e w' ⟨rfl, rfl⟩)
  all_goals
    go_ret
    refine ⟨ret_intK ?_, rfl⟩
    rw [← H.out, classOf_btw]
    simp_all
theorem Tryz.kata33 (c : Int) (w : World) (h0 : -2147483648 ≤ c) (h1 : c ≤ 2147483647) : Calls Tryz.prog 40 #[.int .i32 c] w fun e w' => e = .returned (.int .i32 (kataF c)) ∧ w = w' := by
  obtain ⟨q, hq⟩ : ∃ q, kataF c = q := ⟨_, rfl⟩
  rw [hq]
  have H := Lib.hid hq
  clear hq
  have hb := Tryz.class43 c
  by_cases h : classOf c = 1
  · obtain ⟨b1, b2⟩ := class_1 h
    rw [h] at hb
    have H2 := Lib.hid h
    clear h
    go_enter Tryz.func40, Tryz.ntmps40
    go_wp2_with (go_at_call 61; refine (hb _).mono ?_; rintro e w' ⟨rfl, rfl⟩)
    go_ret
    refine ⟨ret_intK ?_, rfl⟩
    rw [← H.out, kataF, if_pos H2.out]
  · have h' : (classOf c == 1) = false := by simpa using h
    have H2 := Lib.hid h
    go_enter Tryz.func40, Tryz.ntmps40
    go_wp2_with (go_at_call 61; refine (hb _).mono ?_; rintro e w' ⟨rfl, rfl⟩)
    all_goals
      first
        | (exfalso; simp_all; done)
        | (go_ret
           refine ⟨ret_intK ?_, rfl⟩
           rw [← H.out, kataF, if_neg H2.out])
end Go.Proofs
end

section
/-
  The reference: the character at a place of a text.
-/
namespace Go.Proofs
open Go.RowKit Go.Shelf Go.Lib
def contGo (s : ByteArray) (a : Nat) : Nat → Nat → Int → Option Int
  | 0, _, c => some c
  | r + 1, i, c => if 128 ≤ (s.get! (a + i)).toNat ∧ (s.get! (a + i)).toNat ≤ 191 then contGo s a r (i + 1) (64 * c + (s.get! (a + i)).toNat - 128) else none
def leastN (n : Nat) : Int := match n with | 2 => 128 | 3 => 2048 | 4 => 65536 | _ => 0
def nextR (s : ByteArray) (a : Nat) : Int × Int :=
  let p := lenB (s.get! a).toNat
  if p.1 = 0 ∨ p.1 > s.size - a then (0, 0) else
    match contGo s a (p.1.toNat - 1) 1 p.2 with
    | none => (0, 0)
    | some c => if c < leastN p.1.toNat ∨ chr c = false then (0, 0) else (c, p.1)
theorem lenB_cases (b : Nat) (h : b ≤ 255) : lenB b = (0, 0) ∨ ∃ n : Nat, ∃ c : Int, lenB b = ((n : Int), c) ∧ 1 ≤ n ∧ n ≤ 4 ∧ 0 ≤ c ∧ c ≤ 127 := by
  unfold lenB
  split
  · exact .inr ⟨1, _, rfl, by omega, by omega, by omega, by omega⟩
  · split
    · exact .inr ⟨2, _, rfl, by omega, by omega, by omega, by omega⟩
    · split
      · exact .inr ⟨3, _, rfl, by omega, by omega, by omega, by omega⟩
      · split
        · exact .inr ⟨4, _, rfl, by omega, by omega, by omega, by omega⟩
        · exact .inl rfl
theorem ret_tupN {a b : Int} {p : Int × Int} (h : (a, b) = p) : Ending.returned (.tuple #[.int .i32 a, .int .i64 b]) = .returned (.tuple #[.int .i32 p.1, .int .i64 p.2]) := by rw [← h]
def natK : Value → Nat | .int _ n => n.toNat | _ => 0
set_option maxHeartbeats 4000000 in
set_option maxRecDepth 1000000 in
theorem Tryz.next39 (s : ByteArray) (a : Nat) (w : World) (ha : a < s.size) (hs : s.size ≤ 4611686018427387904) :
    Calls Tryz.prog 57 #[.string s, .int .i64 a] w fun e w' => e = .returned (.tuple #[.int .i32 (nextR s a).1, .int .i64 (nextR s a).2]) ∧ Below w.heap.size w w' := by
  obtain ⟨q, hq⟩ : ∃ q, nextR s a = q := ⟨_, rfl⟩
  rw [hq]
  have hb255 : (s.get! a).toNat ≤ 255 := by have := (s.get! a).toNat_lt; omega
  have hgb : s.get! a = s[a] := by simp [ByteArray.get!, ha]; rfl
  have hl := Tryz.length52 (s.get! a).toNat
  rcases lenB_cases (s.get! a).toNat hb255 with h0 | ⟨n, c, hn, hn1, hn4, hc0, hc1⟩
  · have hR : nextR s a = (0, 0) := by simp [nextR, h0]
    rw [h0] at hl
    rw [hgb] at hl hb255
    rw [hR] at hq
    have HQ := Lib.hid hq
    clear hq hR h0 hgb
    go_enter Tryz.func57, Tryz.ntmps57
    go_wp2_with (go_at_call 101; refine (hl _ (by omega) (by omega)).mono ?_; rintro e w' ⟨rfl, rfl⟩)
    go_ret2
    exact ⟨ret_tupN HQ.out, Below.refl _ _⟩
  · rw [hn] at hl
    rw [hgb] at hl hb255
    replace hl := fun W => hl W (by omega) (by omega)
    by_cases hfit : n ≤ s.size - a
    · have hR : (match contGo s a (n - 1) 1 c with | none => (0, 0) | some c => if c < leastN n ∨ chr c = false then (0, 0) else (c, (n : Int))) = q := by
        rw [← hq]
        unfold nextR
        simp only [hn]
        rw [if_neg (by omega)]
        simp
      have HR := Lib.hid hR
      have HG := Lib.hid hgb
      have hchr := Tryz.character40
      clear hq hR hn hb255 hgb
      go_enter Tryz.func57, Tryz.ntmps57
      go_wp2_with (go_at_call 101; refine (hl _).mono ?_; rintro e w' ⟨rfl, rfl⟩)
      clear hl
      · rename_i hbad
        exfalso
        simp only [beq_iff_eq] at hbad
        omega
      rename_i x2 x1 x0 k0 a0
      clear x1 x0
      go_loopw [7, 8] (fun vc vi wr => ∃ (i : Nat) (c : Int), vc = .int .i32 c ∧ vi = .int .i64 i ∧ 1 ≤ i ∧ i ≤ n ∧ 0 ≤ c ∧ (i = 1 → c ≤ 127) ∧ (i = 2 → c ≤ 8191) ∧ (i = 3 → c ≤ 524287) ∧ (i = 4 → c ≤ 33554431) ∧ wr = w ∧
          (match contGo s a (n - i) i c with | none => (0, 0) | some c => if c < leastN n ∨ chr c = false then (0, 0) else (c, (n : Int))) = q)
        (fun _ vi _ => n - natK vi)
      case atStart => exact ⟨1, c, rfl, rfl, Nat.le_refl _, hn1, hc0, fun _ => hc1, by omega, by omega, by omega, rfl, HR.out⟩
      case round =>
        obtain ⟨i, c2, rfl, rfl, hi1, hin, hc20, hb1, hb2, hb3, hb4, rfl, hgo⟩ := hrel
        have HGO := Lib.hid hgo
        clear hgo HR
        by_cases hi : i < n
        · have hai : a + i < s.size := by omega
          have hgi : s.get! (a + i) = s[a + i] := by simp [ByteArray.get!, hai]; rfl
          have hgi255 : (s[a + i]).toNat ≤ 255 := by have := (s[a + i]).toNat_lt; omega
          have HGI := Lib.hid hgi
          have hstep : contGo s a (n - i) i c2 = if 128 ≤ (s[a + i]).toNat ∧ (s[a + i]).toNat ≤ 191 then contGo s a (n - (i + 1)) (i + 1) (64 * c2 + (s[a + i]).toNat - 128) else none := by
            rw [show n - i = (n - (i + 1)) + 1 by omega, contGo, hgi]
          have HST := Lib.hid hstep
          clear hgi hstep
          go_wp2
          · go_ret2
            refine ⟨ret_tupN ?_, Below.refl _ _⟩
            have h1 := HGO.out
            rw [HST.out, if_neg (by omega)] at h1
            exact h1
          · go_roundw
            case rel =>
              refine ⟨i + 1, 64 * c2 + (s[a + i]).toNat - 128, rfl, by simp, by omega, by omega, by omega, by omega, by omega, by omega, by omega, by trivial, ?_⟩
              have h1 := HGO.out
              rw [HST.out, if_pos (by omega)] at h1
              exact h1
            case measure => simp [natK]; omega
          · go_ret2
            refine ⟨ret_tupN ?_, Below.refl _ _⟩
            have h1 := HGO.out
            rw [HST.out, if_neg (by omega)] at h1
            exact h1
        · have hie : i = n := by omega
          have h1 := HGO.out
          rw [hie, Nat.sub_self, contGo] at h1
          simp only [] at h1
          have H1 := Lib.hid h1
          clear h1 HGO HG
          rcases (by omega : i = 1 ∨ i = 2 ∨ i = 3 ∨ i = 4) with h | h | h | h <;> subst h <;> subst hie
          all_goals
            go_wp2_with (go_at_call 58; refine (hchr _ _).mono ?_; rintro e w' ⟨rfl, rfl⟩)
          all_goals
            go_ret2
            refine ⟨ret_tupN ?_, (Below.refl _ _).alloc (Nat.le_refl _) _⟩
            have h1 := H1.out
            first
              | (rw [if_pos (by simp_all [leastN]; done)] at h1; exact h1)
              | (rw [if_neg (by simp_all [leastN]; done)] at h1; exact h1)
    · have hR : nextR s a = (0, 0) := by
        unfold nextR
        simp only [hn]
        rw [if_pos (by omega)]
      rw [hR] at hq
      have HQ := Lib.hid hq
      have HG := Lib.hid hgb
      clear hq hR hn hb255 hgb
      go_enter Tryz.func57, Tryz.ntmps57
      go_wp2_with (go_at_call 101; refine (hl _).mono ?_; rintro e w' ⟨rfl, rfl⟩)
      · go_ret2
        exact ⟨ret_tupN HQ.out, Below.refl _ _⟩
end Go.Proofs
end

section
/-
  The reference: the characters of a text.
-/
namespace Go.Proofs
open Go.RowKit Go.Shelf Go.Lib
theorem nextR_fit (s : ByteArray) (a : Nat) (ha : a < s.size) : nextR s a = (0, 0) ∨ ∃ n : Nat, (nextR s a).2 = n ∧ 1 ≤ n ∧ a + n ≤ s.size := by
  unfold nextR
  have hb255 : (s.get! a).toNat ≤ 255 := by have := (s.get! a).toNat_lt; omega
  rcases lenB_cases (s.get! a).toNat hb255 with h0 | ⟨n, c, hn, hn1, hn4, hc0, hc1⟩
  · left; simp [h0]
  · simp only [hn]
    split
    · exact .inl rfl
    · split
      · exact .inl rfl
      · split
        · exact .inl rfl
        · exact .inr ⟨n, rfl, hn1, by omega⟩
/-- The characters of a text from a place on; none: it is no text. -/
def refGo (s : ByteArray) : Nat → Nat → Option (List Int)
  | 0, _ => some []
  | f + 1, a => if a < s.size then (if (nextR s a).2 = 0 then none else (refGo s f (a + (nextR s a).2.toNat)).map ((nextR s a).1 :: ·)) else some []
def refRunes (s : ByteArray) : Option (List Int) := refGo s s.size 0
theorem Tryz.info21 : (Tryz.prog.info? 21).map (fun i => (i.zero, i.size, i.bytes)) = some (some (.int .i32 0), 1, 4) := by kernel_rfl
def joinK (out : List Int) (r : Option (List Int)) : Option (List Int) := r.map (out ++ ·)
theorem ownsRow_kept {W W' : World} {B : Nat} {e : TypeId} {z : Nat} {v : Value} {n : Nat} {xs : List Value} (h : W.ownsRow B e z v n xs) (hb : Below W.heap.size W W') : W'.ownsRow B e z v n xs := by
  refine ⟨h.1, ?_⟩
  rcases h.2 with h0 | ⟨g, cap, cur, h1, h2, h3, h4⟩
  · exact .inl h0
  · exact .inr ⟨g, cap, cur, h1, h2, (hb.block g (Array.getElem?_eq_some_iff.1 h3).1).trans h3, h4⟩
def RunesEnd (w : World) (R : Option (List Int)) (e : Ending) (w' : World) : Prop := match R with
  | none => e = .returned (.tuple #[.slice none 0 0, .bool false])
  | some l => ∃ v, e = .returned (.tuple #[v, .bool true]) ∧ w'.ownsRow w.heap.size 21 1 v l.length (l.map (Value.int .i32))
set_option maxHeartbeats 4000000 in
set_option maxRecDepth 1000000 in
theorem Tryz.runes28 (s : ByteArray) (w : World) (hs : s.size ≤ 17592186044416) :
    Calls Tryz.prog 35 #[.string s] w fun e w' => RunesEnd w (refRunes s) e w' ∧ Below w.heap.size w w' := by
  obtain ⟨i0, hi, hz0, hz1, hz2⟩ := info_parts Tryz.info21
  obtain ⟨R, hR⟩ : ∃ R, refRunes s = R := ⟨_, rfl⟩
  rw [hR]
  have HR := Lib.hid hR
  clear hR
  go_enter Tryz.func35, Tryz.ntmps35
  go_wp2
  go_loopw [4, 5] (fun v va wr => ∃ (a f : Nat) (out : List Int), va = .int .i64 a ∧ a ≤ s.size ∧ s.size ≤ a + f ∧ out.length ≤ a ∧ joinK out (refGo s f a) = R ∧ wr.ownsRow w.heap.size 21 1 v out.length (out.map (Value.int .i32)) ∧ Below w.heap.size w wr)
    (fun _ va _ => s.size - natK va)
  case atStart =>
    refine ⟨0, s.size, [], rfl, by omega, by omega, by simp, ?_, World.ownsRow_nil _ _ _ _, Below.refl _ _⟩
    rw [← HR.out]
    unfold joinK refRunes
    cases refGo s s.size 0 <;> simp
  case round =>
    obtain ⟨a, f, out, rfl, ha, haf, hol, hgo, hown, hbr⟩ := hrel
    have HGO := Lib.hid hgo
    have hbz := hbr.size
    clear hgo
    by_cases hlt : a < s.size
    · have hn39 := fun W => Tryz.next39 s a W hlt (by omega)
      obtain ⟨f, rfl⟩ : ∃ g, f = g + 1 := ⟨f - 1, by omega⟩
      rcases nextR_fit s a hlt with h0 | ⟨n, hn, hn1, hna⟩
      · rw [h0] at hn39
        have hnone : refGo s (f + 1) a = none := by rw [refGo, if_pos hlt, if_pos (by rw [h0])]
        have HN := Lib.hid hnone
        have HO := Lib.hid hown
        clear hnone h0 hown
        go_wp2_with (go_at_call 57; refine (hn39 _).mono ?_; rintro e w' ⟨rfl, hb⟩)
        go_ret2
        have hRn : R = none := by rw [← HGO.out, HN.out]; rfl
        rw [hRn]
        exact ⟨rfl, hbr.trans (hb.mono hbz)⟩
      · obtain ⟨c, hc⟩ : ∃ c, (nextR s a).1 = c := ⟨_, rfl⟩
        have hsome : refGo s (f + 1) a = (refGo s f (a + n)).map (c :: ·) := by rw [refGo, if_pos hlt, if_neg (by omega), hc, hn]; rfl
        rw [hn, hc] at hn39
        have HN := Lib.hid hsome
        clear hsome hn hc
        go_wp2_with (first
          | (go_at_call 57; refine (hn39 _).mono ?_; rintro e w' ⟨rfl, hb⟩)
          | (at_builtin; refine wpList_append_own _ rfl _ _ 55 rfl w.heap.size 21 i0 (.int .i32 0) 1 4 Tryz.underlying55 hi hz0 hz1 hz2 rfl (by decide) _ _ _ rfl ((ownsRow_kept hown hb).alloc _) ⟨w'.heap.size, 0, none⟩ 1 1 [.int .i32 c] rfl rfl (cell_one_new _ _ _) (fun x hx => by simp at hx; subst hx; rfl) (by unfold maxLen; omega) (by omega) (by have := hb.size; simp; omega) ?_; intro v' w3 hown' hgrow3 hnil3))
        go_roundw
        case rel =>
          refine ⟨a + n, f, out ++ [c], by simp, by omega, by omega, by simp; omega, ?_, by simpa using hown', ?_⟩
          · rw [← HGO.out, HN.out]
            unfold joinK
            cases refGo s f (a + n) <;> simp
          · have hb2 : Below w.heap.size w w' := hbr.trans (hb.mono hbz)
            exact (hb2.alloc hb2.size _).grown hgrow3 (by have := hb2.size; simp; omega) (ownsRow_ge hown)
        case measure => simp [natK]; omega
    · have hend : refGo s f a = some [] := by cases f <;> simp [refGo, hlt]
      have hRn : R = some out := by rw [← HGO.out, hend]; simp [joinK]
      have HN := Lib.hid hRn
      have HO := Lib.hid hown
      clear hRn hend hown
      go_wp2
      go_ret2
      rw [HN.out]
      exact ⟨⟨_, rfl, HO.out⟩, hbr⟩
end Go.Proofs
end

section
/-
  The reference: the table of half-width characters.
-/
namespace Go.Proofs
open Go.RowKit Go.Shelf Go.Lib
def tableS : ByteArray := ⟨#[227, 128, 130, 227, 128, 140, 227, 128, 141, 227, 128, 129, 227, 131, 187, 227, 131, 178, 227, 130, 161, 227, 130, 163, 227, 130, 165, 227, 130, 167, 227, 130, 169, 227, 131, 163, 227, 131, 165, 227, 131, 167, 227, 131, 131, 227, 131, 188, 227, 130, 162, 227, 130, 164, 227, 130, 166, 227, 130, 168, 227, 130, 170, 227, 130, 171, 227, 130, 173, 227, 130, 175, 227, 130, 177, 227, 130, 179, 227, 130, 181, 227, 130, 183, 227, 130, 185, 227, 130, 187, 227, 130, 189, 227, 130, 191, 227, 131, 129, 227, 131, 132, 227, 131, 134, 227, 131, 136, 227, 131, 138, 227, 131, 139, 227, 131, 140, 227, 131, 141, 227, 131, 142, 227, 131, 143, 227, 131, 146, 227, 131, 149, 227, 131, 152, 227, 131, 155, 227, 131, 158, 227, 131, 159, 227, 131, 160, 227, 131, 161, 227, 131, 162, 227, 131, 164, 227, 131, 166, 227, 131, 168, 227, 131, 169, 227, 131, 170, 227, 131, 171, 227, 131, 172, 227, 131, 173, 227, 131, 175, 227, 131, 179]⟩
def tableL : List Int := [12290, 12300, 12301, 12289, 12539, 12530, 12449, 12451, 12453, 12455, 12457, 12515, 12517, 12519, 12483, 12540, 12450, 12452, 12454, 12456, 12458, 12459, 12461, 12463, 12465, 12467, 12469, 12471, 12473, 12475, 12477, 12479, 12481, 12484, 12486, 12488, 12490, 12491, 12492, 12493, 12494, 12495, 12498, 12501, 12504, 12507, 12510, 12511, 12512, 12513, 12514, 12516, 12518, 12520, 12521, 12522, 12523, 12524, 12525, 12527, 12531]
theorem table_runes : refRunes tableS = some tableL := by kernel_rfl
set_option maxRecDepth 1000000 in
theorem Tryz.table31 (w : World) : Calls Tryz.prog 38 #[] w fun e w' => ∃ v, e = .returned v ∧ w'.ownsRow w.heap.size 21 1 v tableL.length (tableL.map (Value.int .i32)) ∧ Below w.heap.size w w' := by
  have h := Tryz.runes28 tableS
  rw [table_runes] at h
  have hsz : tableS.size ≤ 17592186044416 := by decide
  replace h := fun W => h W hsz
  unfold RunesEnd at h
  unfold tableS at h
  clear hsz
  go_enter Tryz.func38, Tryz.ntmps38
  go_wp2_with (go_at_call 35; refine (h _).mono ?_; rintro e w' ⟨⟨v, rfl, ho⟩, hb⟩)
  go_ret
  exact ⟨v, rfl, ho, hb⟩
end Go.Proofs
end

section
/-
  The reference: is a character in a text.
-/
namespace Go.Proofs
open Go.RowKit Go.Shelf Go.Lib
/-- What a row of characters that is not empty looks like to who reads it. -/
theorem row_read {W : World} {B : Nat} {v : Value} {l : List Int} (h : W.ownsRow B 21 1 v l.length (l.map (Value.int .i32))) (h0 : 0 < l.length) :
    ∃ g cap, v = .slice (some ⟨g, 0, none⟩) l.length cap ∧ B ≤ g ∧ l.length ≤ cap ∧ g < W.heap.size ∧ ∀ j, j < l.length → W.cell? ⟨g, j, none⟩ = some (.int .i32 (l.getD j 0)) := by
  rcases h.2 with ⟨_, hn⟩ | ⟨g, cap, cur, h1, h2, h3, h4, _, _, hcur⟩
  · omega
  · refine ⟨g, cap, h1, h2, h4, (Array.getElem?_eq_some_iff.1 h3).1, fun j hj => ?_⟩
    have e1 : (cur.toList.take (l.length * 1))[j]? = (l.map (Value.int .i32))[j]? := by rw [hcur]
    rw [List.getElem?_take, if_pos (by omega), List.getElem?_map, List.getElem?_eq_getElem hj] at e1
    simp at e1
    simp [World.cell?, h3, e1, List.getD, List.getElem?_eq_getElem hj]
def inK (c : Int) (l : List Int) : Bool := l.any (· == c)
set_option maxHeartbeats 4000000 in
set_option maxRecDepth 1000000 in
theorem Tryz.in42 (c : Int) (s : ByteArray) (l : List Int) (hl : refRunes s = some l) (h0 : 0 < l.length) (hl4 : l.length ≤ 100) (hs : s.size ≤ 17592186044416) (w : World) :
    Calls Tryz.prog 60 #[.int .i32 c, .string s] w fun e w' => e = .returned (.bool (inK c l)) ∧ Below w.heap.size w w' := by
  have h28 := fun W => Tryz.runes28 s W hs
  rw [hl] at h28
  unfold RunesEnd at h28
  obtain ⟨R, hR⟩ : ∃ R, inK c l = R := ⟨_, rfl⟩
  rw [hR]
  have HR := Lib.hid hR
  clear hR hl
  go_enter Tryz.func60, Tryz.ntmps60
  go_wp2_with (go_at_call 35; refine (h28 _).mono ?_; rintro e w1 ⟨⟨v, rfl, ho⟩, hb⟩; obtain ⟨g, cap, rfl, hg, hcap, hgw, hcell⟩ := row_read ho h0; clear ho)
  clear h28
  go_loopw [7] (fun vi wr => ∃ k : Nat, vi = .int .i64 k ∧ k ≤ l.length ∧ inK c (l.take k) = false ∧ wr = w1) (fun vi _ => l.length - natK vi)
  case atStart => exact ⟨0, rfl, by omega, rfl, rfl⟩
  case round =>
    obtain ⟨k, rfl, hk, hno, rfl⟩ := hrel
    have HN := Lib.hid hno
    have HC := Lib.hid hcell
    clear hno hcell
    by_cases hlt : k < l.length
    · have hck := HC.out k hlt
      obtain ⟨x, hx⟩ : ∃ x, l.getD k 0 = x := ⟨_, rfl⟩
      rw [hx] at hck
      have htk : inK c (l.take (k + 1)) = (x == c) := by
        have hno := HN.out
        have hgx : l[k] = x := by rw [← hx]; simp [List.getD, List.getElem?_eq_getElem hlt]
        unfold inK at hno ⊢
        rw [List.take_add_one, List.getElem?_eq_getElem hlt, List.any_append, hno]
        simp [hgx]
      have HT := Lib.hid htk
      have HX := Lib.hid hx
      clear htk hx
      cases hxc : (x == c) with
      | true =>
        have HXC := Lib.hid hxc
        go_wp2
        go_ret
        refine ⟨ret_boolK ?_, hb⟩
        rw [← HR.out]
        have h1 := HT.out
        rw [HXC.out] at h1
        unfold inK at h1 ⊢
        obtain ⟨y, hy, hyc⟩ := List.any_eq_true.1 h1
        exact (List.any_eq_true.2 ⟨y, List.mem_of_mem_take hy, hyc⟩).symm
      | false =>
        have HXC := Lib.hid hxc
        go_wp2
        go_roundw
        case rel => exact ⟨k + 1, by simp, by omega, by rw [HT.out, HXC.out], by trivial⟩
        case measure => simp [natK]; omega
    · go_wp2
      go_ret
      refine ⟨ret_boolK ?_, hb⟩
      have h1 := HN.out
      rw [List.take_of_length_le (by omega)] at h1
      rw [← HR.out, h1]
end Go.Proofs
end

section
/-
  The reference: characters with a sound mark.
-/
namespace Go.Proofs
open Go.RowKit Go.Shelf Go.Lib
def dakuL : List Int := [12459, 12461, 12463, 12465, 12467, 12469, 12471, 12473, 12475, 12477, 12479, 12481, 12484, 12486, 12488, 12495, 12498, 12501, 12504, 12507]
def handL : List Int := [12495, 12498, 12501, 12504, 12507]
theorem daku_runes : refRunes ⟨#[227, 130, 171, 227, 130, 173, 227, 130, 175, 227, 130, 177, 227, 130, 179, 227, 130, 181, 227, 130, 183, 227, 130, 185, 227, 130, 187, 227, 130, 189, 227, 130, 191, 227, 131, 129, 227, 131, 132, 227, 131, 134, 227, 131, 136, 227, 131, 143, 227, 131, 146, 227, 131, 149, 227, 131, 152, 227, 131, 155]⟩ = some dakuL := by kernel_rfl
theorem hand_runes : refRunes ⟨#[227, 131, 143, 227, 131, 146, 227, 131, 149, 227, 131, 152, 227, 131, 155]⟩ = some handL := by kernel_rfl
def markedF (c m : Int) : Int := if m = 65438 ∧ c = 12454 then 12532 else if m = 65438 ∧ inK c dakuL = true then c + 1 else if m = 65439 ∧ inK c handL = true then c + 2 else 0
set_option maxHeartbeats 4000000 in
set_option maxRecDepth 1000000 in
theorem Tryz.marked32 (c m : Int) (w : World) (h0 : 0 ≤ c) (h1 : c ≤ 2147483000) :
    Calls Tryz.prog 39 #[.int .i32 c, .int .i32 m] w fun e w' => e = .returned (.int .i32 (markedF c m)) ∧ Below w.heap.size w w' := by
  by_cases hm : m = 65438
  · subst hm
    by_cases hc : c = 12454
    · subst hc
      go_enter Tryz.func39, Tryz.ntmps39
      go_wp2
      go_ret
      exact ⟨ret_intK (by decide), Below.refl _ _⟩
    · have hd := fun W => Tryz.in42 c _ _ daku_runes (by decide) (by decide) (by decide) W
      have hc' : (c == 12454) = false := by simpa using hc
      obtain ⟨d, hdd⟩ : ∃ d, inK c dakuL = d := ⟨_, rfl⟩
      rw [hdd] at hd
      have HD := Lib.hid hdd
      have HC := Lib.hid hc
      clear hdd hc
      cases d with
      | true =>
        go_enter Tryz.func39, Tryz.ntmps39
        go_wp2_with (go_at_call 60; refine (hd _).mono ?_; rintro e w1 ⟨rfl, hb1⟩)
        go_ret
        exact ⟨ret_intK (by simp [markedF, HC.out, HD.out]), hb1⟩
      | false =>
        go_enter Tryz.func39, Tryz.ntmps39
        go_wp2_with (go_at_call 60; refine (hd _).mono ?_; rintro e w1 ⟨rfl, hb1⟩)
        go_ret
        exact ⟨ret_intK (by simp [markedF, HC.out, HD.out]), hb1⟩
  · have hm' : (m == 65438) = false := by simpa using hm
    have HM := Lib.hid hm
    clear hm
    by_cases hh : m = 65439
    · subst hh
      have hd := fun W => Tryz.in42 c _ _ hand_runes (by decide) (by decide) (by decide) W
      obtain ⟨d, hdd⟩ : ∃ d, inK c handL = d := ⟨_, rfl⟩
      rw [hdd] at hd
      have HD := Lib.hid hdd
      clear hdd
      cases d with
      | true =>
        go_enter Tryz.func39, Tryz.ntmps39
        go_wp2_with (go_at_call 60; refine (hd _).mono ?_; rintro e w1 ⟨rfl, hb1⟩)
        go_ret
        exact ⟨ret_intK (by simp [markedF, HD.out]), hb1⟩
      | false =>
        go_enter Tryz.func39, Tryz.ntmps39
        go_wp2_with (go_at_call 60; refine (hd _).mono ?_; rintro e w1 ⟨rfl, hb1⟩)
        go_ret
        exact ⟨ret_intK (by simp [markedF, HD.out]), hb1⟩
    · have hh' : (m == 65439) = false := by simpa using hh
      have HH := Lib.hid hh
      clear hh
      go_enter Tryz.func39, Tryz.ntmps39
      go_wp2
      go_ret
      exact ⟨ret_intK (by simp [markedF, HM.out, HH.out]), Below.refl _ _⟩
end Go.Proofs
end

section
/-
  The reference: the code of a character.
-/
namespace Go.Proofs
open Go.RowKit Go.Shelf Go.Lib
/-- The codes that are still to be laid ahead of l. -/
def codeGo : Nat → Int → List Int → List Int
  | 0, c, l => c :: l
  | j + 1, c, l => codeGo j (c / 64) ((128 + c % 64) :: l)
def thrC (k : Nat) : Int := match k with | 1 => 128 | 2 => 2048 | 3 => 65536 | _ => 0
def lenK : Value → Nat | .slice _ n _ => n | _ => 0
theorem Tryz.info5 : (Tryz.prog.info? 5).map (fun i => (i.zero, i.size, i.bytes)) = some (some (.int .u8 0), 1, 1) := by kernel_rfl
/-- What an own row reads as. -/
theorem row_read1 {W : World} {B e : Nat} {v : Value} {n : Nat} {xs : List Value} (h : W.ownsRow B e 1 v n xs) (h0 : 0 < n) :
    ∃ g cap, v = .slice (some ⟨g, 0, none⟩) n cap ∧ B ≤ g ∧ g < W.heap.size ∧ ∀ j u, xs[j]? = some u → W.cell? ((⟨g, 0, none⟩ : Addr).add j) = some u := by
  rcases h.2 with ⟨_, hn⟩ | ⟨g, cap, cur, rfl, h2, h3, _⟩
  · omega
  · exact ⟨g, cap, rfl, h2, (Array.getElem?_eq_some_iff.1 h3).1, h.cells rfl⟩
theorem own_lit_at (W : World) (cs : Array Value) (e : TypeId) (B n g : Nat) (hg : g = W.heap.size) (hB : B ≤ g) (hn : cs.size = n) (hm : n ≤ 100) :
    (W.alloc (.cells cs e)).ownsRow B e 1 (.slice (some ⟨g, 0, none⟩) n n) n cs.toList := by
  subst hg
  exact World.ownsRow_lit W cs n hB (by unfold maxLen; omega) (by omega)
theorem wpList_conv1 {P : Program} {w : World} {ops : Array Oper} {rest : List Oper} {o : Oper} {a : Act} {Q : Exit → Act → World → Prop} (hgd : o.guard = none) (s d : TypeId) (x : Operand)
    (ho : o.op = .convert s d x) (v r : Value) (hx : a.eval x = v) (hr : (convert s d v).run P w = .ok r w) (h : wpList P ops Q rest (a.put o.dst r) w) : wpList P ops Q (o :: rest) a w := by
  refine wpList_plain hgd fun K hK => ?_
  unfold Oper.wp
  simp [execOp, ho, hx, hr, Result.andThen]
  exact hK _ _ h
theorem conv_ownZ {P : Program} {t e : TypeId} {W : World} {B : Nat} {v : Value} {n : Nat} {l : List Int} (ht : P.underlying t = some (.slice e)) (he : P.underlying e = some (.int .u8)) (hd : P.underlying 9 = some .string)
    (h : W.ownsRow B e 1 v n (l.map (Value.int .u8))) (h0 : 0 < n) (hz : ∀ x ∈ l, 0 ≤ x ∧ x ≤ 255) :
    (convert t 9 v).run P W = .ok (.string ⟨(l.map fun x => x.toNat.toUInt8).toArray⟩) W := by
  have hl : l.length = n := by have := h.1; simpa using this
  obtain ⟨g, cap, rfl, _, _, hc⟩ := row_read1 h h0
  have := run_convert_bytes_back (P := P) W t 9 e ⟨g, 0, none⟩ cap (l.map fun x => x.toNat.toUInt8) ht he hd (fun j hj => by
    have hj' : j < l.length := by simpa using hj
    refine hc j _ ?_
    simp only [List.getElem?_map, List.getElem?_eq_getElem hj', Option.map_some, List.getElem_map]
    have h1 := hz l[j] (List.getElem_mem hj')
    have : (l[j].toNat.toUInt8).toNat = l[j].toNat := by
      rw [Nat.toUInt8, UInt8.toNat_ofNat']
      omega
    rw [this]
    congr 2
    omega)
  rw [List.length_map, hl] at this
  exact this
theorem ret_strK {a b : ByteArray} (h : a = b) : Ending.returned (.string a) = .returned (.string b) := by rw [h]
def codeS (c : Int) : ByteArray := ⟨(Lib.encodeRune c).toArray⟩
set_option maxHeartbeats 4000000 in
set_option maxRecDepth 1000000 in
theorem Tryz.code41a (c : Int) (w : World) (h0 : 0 ≤ c) (h1 : c < 128) : Calls Tryz.prog 59 #[.int .i32 c] w fun e w' => e = .returned (.string (codeS c)) ∧ Below w.heap.size w w' := by
  have hS : codeS c = ⟨([c].map fun x => x.toNat.toUInt8).toArray⟩ := by unfold codeS Lib.encodeRune; rw [Lib.encodeRuneZ_one h0 (by omega)]
  obtain ⟨q, hq⟩ : ∃ q, codeS c = q := ⟨_, rfl⟩
  rw [hq]
  rw [hq] at hS
  have HS := Lib.hid hS
  clear hq hS
  go_enter Tryz.func59, Tryz.ntmps59
  go_wp2
  go_loopw [3] (fun vn wr => vn = .int .i64 1 ∧ Below w.heap.size w wr) (fun _ _ => 0)
  case atStart => exact ⟨rfl, Below.refl _ _⟩
  case round =>
    obtain ⟨rfl, hb⟩ := hrel
    have hbz := hb.size
    have hconv := conv_ownZ (P := Tryz.prog) (l := [c]) Tryz.underlying57 Tryz.underlying5 Tryz.underlying9 (own_lit_at (wr.alloc (.cells #[.int .i32 0, .int .i32 128, .int .i32 2048, .int .i32 65536] 21)) #[.int .u8 c] 5 0 1 (wr.heap.size + 1) (by simp) (Nat.zero_le _) rfl (by omega)) (by omega) (fun x hx => by simp at hx; subst hx; omega)
    rw [← HS.out] at hconv
    go_wp2
    go_ret
    exact ⟨rfl, (hb.alloc hbz _).alloc (by simp; omega) _⟩
def firstC (N : Nat) : Int := match N with | 2 => 192 | 3 => 224 | 4 => 240 | _ => 0
theorem codeGo_enc (N : Nat) (c : Int) (h2 : 2 ≤ N) (h4 : N ≤ 4) (hlo : ∀ k, 1 ≤ k → k < N → thrC k ≤ c) (hhi : c ≤ 1114111 ∧ (N = 4 ∨ c < thrC N)) (hs : c < 55296 ∨ 57343 < c) :
    ∃ h l, codeGo (N - 1) c [] = h :: l ∧ Lib.encodeRuneZ c = (firstC N + h) :: l ∧ 0 ≤ h ∧ firstC N + h ≤ 255 ∧ (∀ x ∈ l, 0 ≤ x ∧ x ≤ 255) ∧ l.length = N - 1 := by
  rcases (by omega : N = 2 ∨ N = 3 ∨ N = 4) with rfl | rfl | rfl
  · have a := hlo 1 (by omega) (by omega)
    have b := hhi.2.resolve_left (by omega)
    simp only [thrC] at a b
    refine ⟨c / 64, [128 + c % 64], rfl, ?_, by omega, by simp only [firstC]; omega, ?_, rfl⟩
    · rw [Lib.encodeRuneZ_two a (by omega)]; rfl
    · intro x hx; simp at hx; omega
  · have a := hlo 2 (by omega) (by omega)
    have b := hhi.2.resolve_left (by omega)
    simp only [thrC] at a b
    refine ⟨c / 64 / 64, [128 + c / 64 % 64, 128 + c % 64], rfl, ?_, by omega, by simp only [firstC]; omega, ?_, rfl⟩
    · rw [Lib.encodeRuneZ_three (by omega), show c / 4096 = c / 64 / 64 by omega]; rfl
    · intro x hx; simp at hx; omega
  · have a := hlo 3 (by omega) (by omega)
    simp only [thrC] at a
    refine ⟨c / 64 / 64 / 64, [128 + c / 64 / 64 % 64, 128 + c / 64 % 64, 128 + c % 64], rfl, ?_, by omega, by simp only [firstC]; omega, ?_, rfl⟩
    · rw [Lib.encodeRuneZ_four a (by omega), show c / 262144 = c / 64 / 64 / 64 by omega, show c / 4096 = c / 64 / 64 by omega]; rfl
    · intro x hx; simp at hx; omega
set_option maxHeartbeats 8000000 in
set_option maxRecDepth 1000000 in
theorem Tryz.code41b (N : Nat) (c : Int) (w : World) (h0 : 0 ≤ c) (h2 : 2 ≤ N) (h4 : N ≤ 4) (hlo : ∀ k, 1 ≤ k → k < N → thrC k ≤ c) (hhi : c ≤ 1114111 ∧ (N = 4 ∨ c < thrC N)) (hs : c < 55296 ∨ 57343 < c) :
    Calls Tryz.prog 59 #[.int .i32 c] w fun e w' => e = .returned (.string (codeS c)) ∧ Below w.heap.size w w' := by
  obtain ⟨i0, hi, hz0, hz1, hz2⟩ := info_parts Tryz.info5
  obtain ⟨h, l, hg, henc, hh0, hh1, hl255, hlN⟩ := codeGo_enc N c h2 h4 hlo hhi hs
  have hS : codeS c = ⟨(((firstC N + h) :: l).map fun x => x.toNat.toUInt8).toArray⟩ := by unfold codeS Lib.encodeRune; rw [henc]
  obtain ⟨q, hq⟩ : ∃ q, codeS c = q := ⟨_, rfl⟩
  rw [hq]
  rw [hq] at hS
  have HS := Lib.hid hS
  have HG := Lib.hid hg
  have HL := Lib.hid hl255
  have HLO := Lib.hid hlo
  have HHI := Lib.hid hhi
  have hc2 := hhi.1
  clear hq hS hg henc hl255 hlo hhi hs
  go_enter Tryz.func59, Tryz.ntmps59
  go_wp2
  go_loopw [3] (fun vn wr => ∃ k : Nat, vn = .int .i64 k ∧ 1 ≤ k ∧ k ≤ N ∧ Below w.heap.size w wr) (fun vn _ => N - natK vn)
  case atStart => exact ⟨1, rfl, by omega, by omega, Below.refl _ _⟩
  case round =>
    obtain ⟨k, rfl, hk1, hkN, hb⟩ := hrel
    have hbz := hb.size
    by_cases hk : k < N
    · have hth := HLO.out k hk1 hk
      rcases (by omega : k = 1 ∨ k = 2 ∨ k = 3) with rfl | rfl | rfl
      all_goals
        simp only [thrC] at hth
        go_wp2
        go_roundw
        case rel => first | exact ⟨2, rfl, by omega, by omega, hb.alloc hbz _⟩ | exact ⟨3, rfl, by omega, by omega, hb.alloc hbz _⟩ | exact ⟨4, rfl, by omega, by omega, hb.alloc hbz _⟩
        case measure => simp [natK]; omega
    · have hkN' : k = N := by omega
      have hth := HHI.out.2
      subst hkN'
      clear hkN
      rcases (by omega : k = 2 ∨ k = 3 ∨ k = 4) with rfl | rfl | rfl
      · have hth2 : c < 2048 := by simpa [thrC] using hth
        clear hth
        rw [show ((2 : Nat) : Int) = (2 : Int) from rfl]
        go_wp2
        go_loopw [4, 0] (fun vb vc wr' => ∃ (j : Nat) (r : List Int) (cc : Int), vc = .int .i32 cc ∧ 0 ≤ cc ∧ cc ≤ 1114111 ∧ j ≤ 2 - 1 ∧ (j = 0 → vb = .slice none 0 0) ∧ codeGo (2 - 1 - j) cc r = h :: l ∧ wr'.ownsRow w.heap.size 5 1 vb j (r.map (Value.int .u8)) ∧ Below w.heap.size w wr')
          (fun vb _ _ => 2 - lenK vb)
        case atStart => exact ⟨0, [], c, rfl, h0, hc2, by omega, fun _ => rfl, HG.out, World.ownsRow_nil _ _ _ _, by first | exact hb | exact hb.alloc hbz _⟩
        case round =>
          obtain ⟨j, r, cc, rfl, hcc0, hcc1, hjN, hj0, hgo, hown, hbr⟩ := hrel
          have HGO := Lib.hid hgo
          have hbrz := hbr.size
          have hrl : r.length = j := by have := hown.1; simpa using this
          clear hgo hb
          rcases Nat.eq_zero_or_pos j with hz | hz
          · have hv := hj0 hz
            clear hj0
            subst hv hz
            have hr0 : r = [] := List.length_eq_zero_iff.1 hrl
            subst hr0
            clear hown
            go_wp2_with (at_builtin; refine wpList_append_own_none rfl _ _ 57 rfl w.heap.size 5 i0 1 Tryz.underlying57 hi _ 1 _ rfl (own_lit_at _ _ _ _ 1 _ (by simp) (by first | omega | (simp; omega)) rfl (by omega)) rfl ?_)
            go_roundw
            case rel =>
              refine ⟨1, [128 + cc % 64], cc / 64, rfl, by omega, by omega, by omega, by omega, ?_, own_lit_at _ _ _ _ 1 _ (by simp) (by first | omega | (simp; omega)) rfl (by omega), hbr.alloc hbrz _⟩
              exact HGO.out
            case measure => simp [lenK]
          · obtain ⟨g, cap, rfl, hgB, hgW, hcell⟩ := row_read1 hown hz
            have HC := Lib.hid hcell
            have HO := Lib.hid hown
            clear hj0 hcell hown
            by_cases hj : j < 2 - 1
            · exfalso; omega
            · have hjN' : j = 2 - 1 := by omega
              have hgo := HGO.out
              rw [hjN', Nat.sub_self, codeGo, List.cons.injEq] at hgo
              obtain ⟨rfl, rfl⟩ := hgo
              have hf : 192 + cc ≤ 255 := hh1
              have HZL := Lib.hid (show ∀ x ∈ (192 + cc) :: r, 0 ≤ x ∧ x ≤ 255 by
                intro x hx
                rcases List.mem_cons.1 hx with rfl | hx
                · omega
                · exact HL.out x hx)
              have hbT := (Below.refl wr.heap.size wr).alloc (Nat.le_refl _) (.cells #[.int .i32 0, .int .i32 0, .int .i32 192, .int .i32 224, .int .i32 240] 21)
              have hbV := hbT.alloc (by simp) (.cells #[.int .u8 (192 + cc)] 5)
              go_wp2_with (at_builtin; refine wpList_append_own _ rfl _ _ 57 rfl w.heap.size 5 i0 (.int .u8 0) 1 1 Tryz.underlying57 hi hz0 hz1 hz2 rfl (by decide) _ 1 _ rfl (own_lit_at _ _ _ _ 1 _ (by simp) (by first | omega | (simp; omega)) rfl (by omega)) ⟨g, 0, none⟩ j cap (r.map (Value.int .u8)) rfl (by simpa using hrl) (fun i u hu => (hbV.cell (p := (⟨g, 0, none⟩ : Addr).add i) (by rw [Addr.add_lit]; exact hgW)).trans (HC.out i u hu)) (ints_oneCell _ _) (by unfold maxLen; omega) (by omega) (by simp; omega) ?_; intro v' w3 hown' hgrow3 hnil3; have hconv := conv_ownZ (P := Tryz.prog) (l := (192 + cc) :: r) Tryz.underlying57 Tryz.underlying5 Tryz.underlying9 hown' (by omega) HZL.out)
              go_ret
              refine ⟨ret_strK HS.out.symm, ?_⟩
              exact ((hbr.alloc hbrz _).alloc (by simp; omega) _).grown hgrow3 (by simp; omega) (fun k hk => by first | (have h : wr.heap.size = k := Option.some.inj hk; omega) | (have h : wr.heap.size + 1 = k := Option.some.inj hk; omega))
      · have hth2 : c < 65536 := by simpa [thrC] using hth
        clear hth
        rw [show ((3 : Nat) : Int) = (3 : Int) from rfl]
        go_wp2
        go_loopw [4, 0] (fun vb vc wr' => ∃ (j : Nat) (r : List Int) (cc : Int), vc = .int .i32 cc ∧ 0 ≤ cc ∧ cc ≤ 1114111 ∧ j ≤ 3 - 1 ∧ (j = 0 → vb = .slice none 0 0) ∧ codeGo (3 - 1 - j) cc r = h :: l ∧ wr'.ownsRow w.heap.size 5 1 vb j (r.map (Value.int .u8)) ∧ Below w.heap.size w wr')
          (fun vb _ _ => 3 - lenK vb)
        case atStart => exact ⟨0, [], c, rfl, h0, hc2, by omega, fun _ => rfl, HG.out, World.ownsRow_nil _ _ _ _, by first | exact hb | exact hb.alloc hbz _⟩
        case round =>
          obtain ⟨j, r, cc, rfl, hcc0, hcc1, hjN, hj0, hgo, hown, hbr⟩ := hrel
          have HGO := Lib.hid hgo
          have hbrz := hbr.size
          have hrl : r.length = j := by have := hown.1; simpa using this
          clear hgo hb
          rcases Nat.eq_zero_or_pos j with hz | hz
          · have hv := hj0 hz
            clear hj0
            subst hv hz
            have hr0 : r = [] := List.length_eq_zero_iff.1 hrl
            subst hr0
            clear hown
            go_wp2_with (at_builtin; refine wpList_append_own_none rfl _ _ 57 rfl w.heap.size 5 i0 1 Tryz.underlying57 hi _ 1 _ rfl (own_lit_at _ _ _ _ 1 _ (by simp) (by first | omega | (simp; omega)) rfl (by omega)) rfl ?_)
            go_roundw
            case rel =>
              refine ⟨1, [128 + cc % 64], cc / 64, rfl, by omega, by omega, by omega, by omega, ?_, own_lit_at _ _ _ _ 1 _ (by simp) (by first | omega | (simp; omega)) rfl (by omega), hbr.alloc hbrz _⟩
              exact HGO.out
            case measure => simp [lenK]
          · obtain ⟨g, cap, rfl, hgB, hgW, hcell⟩ := row_read1 hown hz
            have HC := Lib.hid hcell
            have HO := Lib.hid hown
            clear hj0 hcell hown
            by_cases hj : j < 3 - 1
            · go_wp2_with (at_builtin; refine wpList_append_own _ rfl _ _ 57 rfl w.heap.size 5 i0 (.int .u8 0) 1 1 Tryz.underlying57 hi hz0 hz1 hz2 rfl (by decide) _ 1 _ rfl (own_lit_at _ _ _ _ 1 _ (by simp) (by first | omega | (simp; omega)) rfl (by omega)) ⟨g, 0, none⟩ j cap (r.map (Value.int .u8)) rfl (by simpa using hrl) (fun i u hu => (((Below.refl wr.heap.size wr).alloc (Nat.le_refl _) _).cell (p := (⟨g, 0, none⟩ : Addr).add i) (by rw [Addr.add_lit]; exact hgW)).trans (HC.out i u hu)) (ints_oneCell _ _) (by unfold maxLen; omega) (by omega) (by simp; omega) ?_; intro v' w3 hown' hgrow3 hnil3)
              go_roundw
              case rel =>
                refine ⟨1 + j, (128 + cc % 64) :: r, cc / 64, rfl, by omega, by omega, by omega, by omega, ?_, hown', (hbr.alloc hbrz _).grown hgrow3 (by simp; omega) (fun k hk => by first | (have h : wr.heap.size = k := Option.some.inj hk; omega) | (have h : wr.heap.size + 1 = k := Option.some.inj hk; omega))⟩
                rw [← HGO.out, show 3 - 1 - j = (3 - 1 - (1 + j)) + 1 by omega, codeGo]
              case measure =>
                obtain ⟨_, _, rfl, _⟩ := row_read1 hown' (by omega)
                simp [lenK]; omega
            · have hjN' : j = 3 - 1 := by omega
              have hgo := HGO.out
              rw [hjN', Nat.sub_self, codeGo, List.cons.injEq] at hgo
              obtain ⟨rfl, rfl⟩ := hgo
              have hf : 224 + cc ≤ 255 := hh1
              have HZL := Lib.hid (show ∀ x ∈ (224 + cc) :: r, 0 ≤ x ∧ x ≤ 255 by
                intro x hx
                rcases List.mem_cons.1 hx with rfl | hx
                · omega
                · exact HL.out x hx)
              have hbT := (Below.refl wr.heap.size wr).alloc (Nat.le_refl _) (.cells #[.int .i32 0, .int .i32 0, .int .i32 192, .int .i32 224, .int .i32 240] 21)
              have hbV := hbT.alloc (by simp) (.cells #[.int .u8 (224 + cc)] 5)
              go_wp2_with (at_builtin; refine wpList_append_own _ rfl _ _ 57 rfl w.heap.size 5 i0 (.int .u8 0) 1 1 Tryz.underlying57 hi hz0 hz1 hz2 rfl (by decide) _ 1 _ rfl (own_lit_at _ _ _ _ 1 _ (by simp) (by first | omega | (simp; omega)) rfl (by omega)) ⟨g, 0, none⟩ j cap (r.map (Value.int .u8)) rfl (by simpa using hrl) (fun i u hu => (hbV.cell (p := (⟨g, 0, none⟩ : Addr).add i) (by rw [Addr.add_lit]; exact hgW)).trans (HC.out i u hu)) (ints_oneCell _ _) (by unfold maxLen; omega) (by omega) (by simp; omega) ?_; intro v' w3 hown' hgrow3 hnil3; have hconv := conv_ownZ (P := Tryz.prog) (l := (224 + cc) :: r) Tryz.underlying57 Tryz.underlying5 Tryz.underlying9 hown' (by omega) HZL.out)
              go_ret
              refine ⟨ret_strK HS.out.symm, ?_⟩
              exact ((hbr.alloc hbrz _).alloc (by simp; omega) _).grown hgrow3 (by simp; omega) (fun k hk => by first | (have h : wr.heap.size = k := Option.some.inj hk; omega) | (have h : wr.heap.size + 1 = k := Option.some.inj hk; omega))
      · clear hth
        rw [show ((4 : Nat) : Int) = (4 : Int) from rfl]
        go_wp2
        go_loopw [4, 0] (fun vb vc wr' => ∃ (j : Nat) (r : List Int) (cc : Int), vc = .int .i32 cc ∧ 0 ≤ cc ∧ cc ≤ 1114111 ∧ j ≤ 4 - 1 ∧ (j = 0 → vb = .slice none 0 0) ∧ codeGo (4 - 1 - j) cc r = h :: l ∧ wr'.ownsRow w.heap.size 5 1 vb j (r.map (Value.int .u8)) ∧ Below w.heap.size w wr')
          (fun vb _ _ => 4 - lenK vb)
        case atStart => exact ⟨0, [], c, rfl, h0, hc2, by omega, fun _ => rfl, HG.out, World.ownsRow_nil _ _ _ _, by first | exact hb | exact hb.alloc hbz _⟩
        case round =>
          obtain ⟨j, r, cc, rfl, hcc0, hcc1, hjN, hj0, hgo, hown, hbr⟩ := hrel
          have HGO := Lib.hid hgo
          have hbrz := hbr.size
          have hrl : r.length = j := by have := hown.1; simpa using this
          clear hgo hb
          rcases Nat.eq_zero_or_pos j with hz | hz
          · have hv := hj0 hz
            clear hj0
            subst hv hz
            have hr0 : r = [] := List.length_eq_zero_iff.1 hrl
            subst hr0
            clear hown
            go_wp2_with (at_builtin; refine wpList_append_own_none rfl _ _ 57 rfl w.heap.size 5 i0 1 Tryz.underlying57 hi _ 1 _ rfl (own_lit_at _ _ _ _ 1 _ (by simp) (by first | omega | (simp; omega)) rfl (by omega)) rfl ?_)
            go_roundw
            case rel =>
              refine ⟨1, [128 + cc % 64], cc / 64, rfl, by omega, by omega, by omega, by omega, ?_, own_lit_at _ _ _ _ 1 _ (by simp) (by first | omega | (simp; omega)) rfl (by omega), hbr.alloc hbrz _⟩
              exact HGO.out
            case measure => simp [lenK]
          · obtain ⟨g, cap, rfl, hgB, hgW, hcell⟩ := row_read1 hown hz
            have HC := Lib.hid hcell
            have HO := Lib.hid hown
            clear hj0 hcell hown
            by_cases hj : j < 4 - 1
            · go_wp2_with (at_builtin; refine wpList_append_own _ rfl _ _ 57 rfl w.heap.size 5 i0 (.int .u8 0) 1 1 Tryz.underlying57 hi hz0 hz1 hz2 rfl (by decide) _ 1 _ rfl (own_lit_at _ _ _ _ 1 _ (by simp) (by first | omega | (simp; omega)) rfl (by omega)) ⟨g, 0, none⟩ j cap (r.map (Value.int .u8)) rfl (by simpa using hrl) (fun i u hu => (((Below.refl wr.heap.size wr).alloc (Nat.le_refl _) _).cell (p := (⟨g, 0, none⟩ : Addr).add i) (by rw [Addr.add_lit]; exact hgW)).trans (HC.out i u hu)) (ints_oneCell _ _) (by unfold maxLen; omega) (by omega) (by simp; omega) ?_; intro v' w3 hown' hgrow3 hnil3)
              go_roundw
              case rel =>
                refine ⟨1 + j, (128 + cc % 64) :: r, cc / 64, rfl, by omega, by omega, by omega, by omega, ?_, hown', (hbr.alloc hbrz _).grown hgrow3 (by simp; omega) (fun k hk => by first | (have h : wr.heap.size = k := Option.some.inj hk; omega) | (have h : wr.heap.size + 1 = k := Option.some.inj hk; omega))⟩
                rw [← HGO.out, show 4 - 1 - j = (4 - 1 - (1 + j)) + 1 by omega, codeGo]
              case measure =>
                obtain ⟨_, _, rfl, _⟩ := row_read1 hown' (by omega)
                simp [lenK]; omega
            · have hjN' : j = 4 - 1 := by omega
              have hgo := HGO.out
              rw [hjN', Nat.sub_self, codeGo, List.cons.injEq] at hgo
              obtain ⟨rfl, rfl⟩ := hgo
              have hf : 240 + cc ≤ 255 := hh1
              have HZL := Lib.hid (show ∀ x ∈ (240 + cc) :: r, 0 ≤ x ∧ x ≤ 255 by
                intro x hx
                rcases List.mem_cons.1 hx with rfl | hx
                · omega
                · exact HL.out x hx)
              have hbT := (Below.refl wr.heap.size wr).alloc (Nat.le_refl _) (.cells #[.int .i32 0, .int .i32 0, .int .i32 192, .int .i32 224, .int .i32 240] 21)
              have hbV := hbT.alloc (by simp) (.cells #[.int .u8 (240 + cc)] 5)
              go_wp2_with (at_builtin; refine wpList_append_own _ rfl _ _ 57 rfl w.heap.size 5 i0 (.int .u8 0) 1 1 Tryz.underlying57 hi hz0 hz1 hz2 rfl (by decide) _ 1 _ rfl (own_lit_at _ _ _ _ 1 _ (by simp) (by first | omega | (simp; omega)) rfl (by omega)) ⟨g, 0, none⟩ j cap (r.map (Value.int .u8)) rfl (by simpa using hrl) (fun i u hu => (hbV.cell (p := (⟨g, 0, none⟩ : Addr).add i) (by rw [Addr.add_lit]; exact hgW)).trans (HC.out i u hu)) (ints_oneCell _ _) (by unfold maxLen; omega) (by omega) (by simp; omega) ?_; intro v' w3 hown' hgrow3 hnil3; have hconv := conv_ownZ (P := Tryz.prog) (l := (240 + cc) :: r) Tryz.underlying57 Tryz.underlying5 Tryz.underlying9 hown' (by omega) HZL.out)
              go_ret
              refine ⟨ret_strK HS.out.symm, ?_⟩
              exact ((hbr.alloc hbrz _).alloc (by simp; omega) _).grown hgrow3 (by simp; omega) (fun k hk => by first | (have h : wr.heap.size = k := Option.some.inj hk; omega) | (have h : wr.heap.size + 1 = k := Option.some.inj hk; omega))
end Go.Proofs
end
