/-
  Plain: the reference's four texts are the program's; the reference's Kana and 'same', walked.
-/
import Derived.Test.YtehhkecoedbjoaaGreatDoorWC
import Derived.Lib.MapLaws
import Derived.Lib.ValidLaws
import Derived.Lib.TrimUEq
import Derived.Deep.QuietTactic
import Derived.BigQuiet
import Derived.Laws.StructEq
set_option linter.unusedVariables false
set_option linter.unusedSimpArgs false
set_option linter.unusedSectionVars false
section
/-
  Plain: the reference's reading of a text is the decoder's.
-/
namespace Go.Proofs
open Go.RowKit Go.Shelf Go.Lib
theorem next_decode (s : ByteArray) (a : Nat) (ha : a < s.size) :
    nextR s a = if (Utf8.decode s a).1 = 65533 ∧ (Utf8.decode s a).2 = 1 then (0, 0) else (((Utf8.decode s a).1 : Int), ((Utf8.decode s a).2 : Int)) := by
  rw [decode_at]
  have k0 := (s.get! a).toNat_lt
  have k1 := (s.get! (a + 1)).toNat_lt
  have k2 := (s.get! (a + 2)).toNat_lt
  have k3 := (s.get! (a + 3)).toNat_lt
  have c0 : ∀ i c, contGo s a 0 i c = some c := fun i c => by rw [contGo]
  have c1 : ∀ r i c, contGo s a (r + 1) i c = if 128 ≤ (s.get! (a + i)).toNat ∧ (s.get! (a + i)).toNat ≤ 191 then contGo s a r (i + 1) (64 * c + (s.get! (a + i)).toNat - 128) else none := fun r i c => by rw [contGo]
  have hn : (s.size : Int) - a = ((s.size - a : Nat) : Int) := by omega
  unfold nextR
  rw [hn]
  have hn1 : 1 ≤ s.size - a := by omega
  generalize s.size - a = n at hn1 ⊢
  generalize (s.get! a).toNat = b0 at k0 ⊢
  by_cases h1 : b0 < 128
  · have hl : lenB (b0 : Int) = (1, (b0 : Int)) := by unfold lenB; rw [if_pos (by omega)]
    have hd : ∀ b1 b2 b3, decodeN n b0 b1 b2 b3 = (b0, 1) := fun _ _ _ => by unfold decodeN; rw [if_pos h1]
    have hc : chr b0 = true := by unfold chr; simp; omega
    simp only [hl, hd]
    rw [if_neg (by omega), if_neg (by omega)]
    simp only [show ((1 : Int).toNat - 1) = 0 by rfl, c0]
    rw [if_neg (by simp only [show (1 : Int).toNat = 1 by rfl, leastN, hc]; simp)]
    rfl
  · by_cases h2 : 192 ≤ b0 ∧ b0 < 224
    · have hl : lenB (b0 : Int) = (2, (b0 : Int) - 192) := by unfold lenB; rw [if_neg (by omega), if_pos (by omega)]
      simp only [hl]
      by_cases hm : n < 2
      · rw [if_pos (by right; omega)]
        have hd : decodeN n b0 (s.get! (a + 1)).toNat (s.get! (a + 2)).toNat (s.get! (a + 3)).toNat = (65533, 1) := by
          unfold decodeN
          rw [if_neg h1, if_neg (by omega), if_neg (by omega), if_neg (by omega)]
        rw [hd, if_pos ⟨rfl, rfl⟩]
      · rw [if_neg (by omega)]
        simp only [show ((2 : Int).toNat - 1) = 0 + 1 by rfl, c1, c0]
        generalize (s.get! (a + 1)).toNat = b1 at k1 ⊢
        by_cases hb : 128 ≤ b1 ∧ b1 ≤ 191
        · rw [if_pos hb]
          simp only [show (2 : Int).toNat = 2 by rfl, leastN]
          have hd : decodeN n b0 b1 (s.get! (a + 2)).toNat (s.get! (a + 3)).toNat = if b0 % 32 * 64 + b1 % 64 ≥ 128 then (b0 % 32 * 64 + b1 % 64, 2) else (65533, 1) := by
            unfold decodeN
            rw [if_neg h1, if_pos (by omega)]
          rw [hd]
          by_cases hc : b0 % 32 * 64 + b1 % 64 ≥ 128
          · have hch : chr (64 * ((b0 : Int) - 192) + b1 - 128) = true := by unfold chr; simp; omega
            rw [if_pos hc, if_neg (by rw [hch]; simp only [Bool.true_eq_false, or_false]; omega), if_neg (by simp)]
            simp
            omega
          · rw [if_neg hc, if_pos (by left; omega), if_pos ⟨rfl, rfl⟩]
        · rw [if_neg hb]
          have hd : decodeN n b0 b1 (s.get! (a + 2)).toNat (s.get! (a + 3)).toNat = (65533, 1) := by
            unfold decodeN
            rw [if_neg h1, if_neg (by omega), if_neg (by omega), if_neg (by omega)]
          rw [hd, if_pos ⟨rfl, rfl⟩]
    · by_cases h3 : 224 ≤ b0 ∧ b0 < 240
      · have hl : lenB (b0 : Int) = (3, (b0 : Int) - 224) := by unfold lenB; rw [if_neg (by omega), if_neg (by omega), if_pos (by omega)]
        simp only [hl]
        by_cases hm : n < 3
        · rw [if_pos (by right; omega)]
          have hd : decodeN n b0 (s.get! (a + 1)).toNat (s.get! (a + 2)).toNat (s.get! (a + 3)).toNat = (65533, 1) := by
            unfold decodeN
            rw [if_neg h1, if_neg (by omega), if_neg (by omega), if_neg (by omega)]
          rw [hd, if_pos ⟨rfl, rfl⟩]
        · rw [if_neg (by omega)]
          simp only [show ((3 : Int).toNat - 1) = 0 + 1 + 1 by rfl, c1, c0, show (1 + 1 : Nat) = 2 by rfl]
          generalize (s.get! (a + 1)).toNat = b1 at k1 ⊢
          generalize (s.get! (a + 2)).toNat = b2 at k2 ⊢
          by_cases hb : (128 ≤ b1 ∧ b1 ≤ 191) ∧ (128 ≤ b2 ∧ b2 ≤ 191)
          · rw [if_pos hb.1, if_pos hb.2]
            simp only [show (3 : Int).toNat = 3 by rfl, leastN]
            have hd : decodeN n b0 b1 b2 (s.get! (a + 3)).toNat = if b0 % 16 * 4096 + b1 % 64 * 64 + b2 % 64 ≥ 2048 ∧ (b0 % 16 * 4096 + b1 % 64 * 64 + b2 % 64 < 55296 ∨ (57344 ≤ b0 % 16 * 4096 + b1 % 64 * 64 + b2 % 64 ∧ b0 % 16 * 4096 + b1 % 64 * 64 + b2 % 64 ≤ 1114111)) then (b0 % 16 * 4096 + b1 % 64 * 64 + b2 % 64, 3) else (65533, 1) := by
              unfold decodeN
              rw [if_neg h1, if_neg (by omega), if_pos (by omega)]
            rw [hd]
            have hval : 64 * (64 * ((b0 : Int) - 224) + b1 - 128) + b2 - 128 = ((b0 % 16 * 4096 + b1 % 64 * 64 + b2 % 64 : Nat) : Int) := by omega
            rw [hval]
            generalize b0 % 16 * 4096 + b1 % 64 * 64 + b2 % 64 = v
            by_cases hc : v ≥ 2048 ∧ (v < 55296 ∨ (57344 ≤ v ∧ v ≤ 1114111))
            · have hch : chr (v : Int) = true := by unfold chr; simp; omega
              rw [if_pos hc, if_neg (by rw [hch]; simp only [Bool.true_eq_false, or_false]; omega), if_neg (by simp)]
              rfl
            · rw [if_neg hc]
              by_cases hv : v < 2048
              · rw [if_pos (by left; omega), if_pos ⟨rfl, rfl⟩]
              · have hch : chr (v : Int) = false := by unfold chr; simp; omega
                rw [if_pos (.inr hch), if_pos ⟨rfl, rfl⟩]
          · have hd : decodeN n b0 b1 b2 (s.get! (a + 3)).toNat = (65533, 1) := by
              unfold decodeN
              rw [if_neg h1, if_neg (by omega), if_neg (by omega), if_neg (by omega)]
            rw [hd]
            by_cases hb1 : 128 ≤ b1 ∧ b1 ≤ 191
            · rw [if_pos hb1, if_neg (fun h => hb ⟨hb1, h⟩), if_pos ⟨rfl, rfl⟩]
            · rw [if_neg hb1, if_pos ⟨rfl, rfl⟩]
      · by_cases h4 : 240 ≤ b0 ∧ b0 < 248
        · have hl : lenB (b0 : Int) = (4, (b0 : Int) - 240) := by unfold lenB; rw [if_neg (by omega), if_neg (by omega), if_neg (by omega), if_pos (by omega)]
          simp only [hl]
          by_cases hm : n < 4
          · rw [if_pos (by right; omega)]
            have hd : decodeN n b0 (s.get! (a + 1)).toNat (s.get! (a + 2)).toNat (s.get! (a + 3)).toNat = (65533, 1) := by
              unfold decodeN
              rw [if_neg h1, if_neg (by omega), if_neg (by omega), if_neg (by omega)]
            rw [hd, if_pos ⟨rfl, rfl⟩]
          · rw [if_neg (by omega)]
            simp only [show ((4 : Int).toNat - 1) = 0 + 1 + 1 + 1 by rfl, c1, c0, show (1 + 1 : Nat) = 2 by rfl, show (2 + 1 : Nat) = 3 by rfl]
            generalize (s.get! (a + 1)).toNat = b1 at k1 ⊢
            generalize (s.get! (a + 2)).toNat = b2 at k2 ⊢
            generalize (s.get! (a + 3)).toNat = b3 at k3 ⊢
            by_cases hb : (128 ≤ b1 ∧ b1 ≤ 191) ∧ (128 ≤ b2 ∧ b2 ≤ 191) ∧ (128 ≤ b3 ∧ b3 ≤ 191)
            · rw [if_pos hb.1, if_pos hb.2.1, if_pos hb.2.2]
              simp only [show (4 : Int).toNat = 4 by rfl, leastN]
              have hd : decodeN n b0 b1 b2 b3 = if b0 % 8 * 262144 + b1 % 64 * 4096 + b2 % 64 * 64 + b3 % 64 ≥ 65536 ∧ (b0 % 8 * 262144 + b1 % 64 * 4096 + b2 % 64 * 64 + b3 % 64 < 55296 ∨ (57344 ≤ b0 % 8 * 262144 + b1 % 64 * 4096 + b2 % 64 * 64 + b3 % 64 ∧ b0 % 8 * 262144 + b1 % 64 * 4096 + b2 % 64 * 64 + b3 % 64 ≤ 1114111)) then (b0 % 8 * 262144 + b1 % 64 * 4096 + b2 % 64 * 64 + b3 % 64, 4) else (65533, 1) := by
                unfold decodeN
                rw [if_neg h1, if_neg (by omega), if_neg (by omega), if_pos (by omega)]
              rw [hd]
              have hval : 64 * (64 * (64 * ((b0 : Int) - 240) + b1 - 128) + b2 - 128) + b3 - 128 = ((b0 % 8 * 262144 + b1 % 64 * 4096 + b2 % 64 * 64 + b3 % 64 : Nat) : Int) := by omega
              rw [hval]
              generalize b0 % 8 * 262144 + b1 % 64 * 4096 + b2 % 64 * 64 + b3 % 64 = v
              by_cases hc : v ≥ 65536 ∧ (v < 55296 ∨ (57344 ≤ v ∧ v ≤ 1114111))
              · have hch : chr (v : Int) = true := by unfold chr; simp; omega
                rw [if_pos hc, if_neg (by rw [hch]; simp only [Bool.true_eq_false, or_false]; omega), if_neg (by simp)]
                rfl
              · rw [if_neg hc]
                by_cases hv : v < 65536
                · rw [if_pos (by left; omega), if_pos ⟨rfl, rfl⟩]
                · have hch : chr (v : Int) = false := by unfold chr; simp; omega
                  rw [if_pos (.inr hch), if_pos ⟨rfl, rfl⟩]
            · have hd : decodeN n b0 b1 b2 b3 = (65533, 1) := by
                unfold decodeN
                rw [if_neg h1, if_neg (by omega), if_neg (by omega), if_neg (by omega)]
              rw [hd]
              by_cases hb1 : 128 ≤ b1 ∧ b1 ≤ 191
              · rw [if_pos hb1]
                by_cases hb2 : 128 ≤ b2 ∧ b2 ≤ 191
                · rw [if_pos hb2, if_neg (fun h => hb ⟨hb1, hb2, h⟩), if_pos ⟨rfl, rfl⟩]
                · rw [if_neg hb2, if_pos ⟨rfl, rfl⟩]
              · rw [if_neg hb1, if_pos ⟨rfl, rfl⟩]
        · have hl : lenB (b0 : Int) = (0, 0) := by unfold lenB; rw [if_neg (by omega), if_neg (by omega), if_neg (by omega), if_neg (by omega)]
          simp only [hl]
          rw [if_pos (by simp)]
          have hd : decodeN n b0 (s.get! (a + 1)).toNat (s.get! (a + 2)).toNat (s.get! (a + 3)).toNat = (65533, 1) := by
            unfold decodeN
            rw [if_neg h1, if_neg (by omega), if_neg (by omega), if_neg (by omega)]
          rw [hd, if_pos ⟨rfl, rfl⟩]
theorem drop_nil_iff (s : ByteArray) (pos : Nat) : s.data.toList.drop pos = [] ↔ ¬ pos < s.size := by
  rw [List.drop_eq_nil_iff]
  show s.data.toList.length ≤ pos ↔ _
  rw [Array.length_toList]
  show s.size ≤ pos ↔ _
  omega
theorem refGo_eq (s : ByteArray) : ∀ (f pos : Nat), refGo s f pos = if validGoD f (s.data.toList.drop pos) = true then some (runesGo s f pos) else none
  | 0, pos => by simp [refGo, validGoD, runesGo]
  | f + 1, pos => by
    unfold refGo validGoD runesGo
    by_cases hp : pos < s.size
    · have hne : ¬ s.data.toList.drop pos = [] := fun h => (drop_nil_iff s pos).1 h hp
      rw [if_pos hp, if_neg hne, if_pos hp, decodeL_drop, List.drop_drop, next_decode s pos hp]
      by_cases hd : (Utf8.decode s pos).1 = 65533 ∧ (Utf8.decode s pos).2 = 1
      · rw [if_pos hd, if_pos hd]; simp
      · rw [if_neg hd, if_neg hd]
        have hw := width_pos s pos hp
        rw [if_neg (by simp; omega), refGo_eq s f]
        simp only [Int.toNat_natCast]
        split <;> simp
    · have hne : s.data.toList.drop pos = [] := (drop_nil_iff s pos).2 hp
      rw [if_neg hp, if_pos hne, if_neg hp]; simp
theorem ba_len (s : ByteArray) : s.data.toList.length = s.size := by rw [Array.length_toList]; rfl
theorem refRunes_eq (s : ByteArray) : refRunes s = if Lib.validD s.data.toList = true then some (runesL s) else none := by
  unfold refRunes Lib.validD runesL
  rw [refGo_eq, List.drop_zero, ba_len]
theorem mapGo_eq (g : Int → Int) (s : ByteArray) : ∀ (f pos : Nat), mapGoD g f (s.data.toList.drop pos) = (runesGo s f pos).flatMap fun c => if 0 ≤ g c then encodeRune (g c) else []
  | 0, pos => by simp [mapGoD, runesGo]
  | f + 1, pos => by
    unfold mapGoD runesGo
    by_cases hp : pos < s.size
    · have hne : ¬ s.data.toList.drop pos = [] := fun h => (drop_nil_iff s pos).1 h hp
      rw [if_neg hne, if_pos hp, decodeL_drop, List.drop_drop, mapGo_eq g s f]
      simp
    · have hne : s.data.toList.drop pos = [] := (drop_nil_iff s pos).2 hp
      rw [if_pos hne, if_neg hp]; simp
theorem mapD_eq (g : Int → Int) (s : ByteArray) : Lib.mapD g s.data.toList = (runesL s).flatMap fun c => if 0 ≤ g c then encodeRune (g c) else [] := by
  unfold Lib.mapD runesL
  have := mapGo_eq g s s.size 0
  rw [List.drop_zero] at this
  rw [ba_len]
  exact this
theorem flatMap_same {f g : Int → List UInt8} : ∀ (l : List Int), (∀ c ∈ l, f c = g c) → l.flatMap f = l.flatMap g
  | [], _ => rfl
  | c :: l, h => by
    rw [List.flatMap_cons, List.flatMap_cons, h c List.mem_cons_self, flatMap_same l fun c hc => h c (List.mem_cons_of_mem _ hc)]
/-- Where each character becomes a character, the reference and the program agree. -/
theorem refMap_eq (f g : Int → Int) (s : ByteArray) (h : ∀ c, chr c = true → f c = g c ∧ chr (g c) = true) : refMap f s = eachS g s := by
  unfold refMap eachS
  have hr := refRunes_eq s
  by_cases hv : Lib.validD s.data.toList = true
  · rw [if_pos hv] at hr
    have hrg := refRunes_range hr
    rw [hr, if_pos hv]
    show textS _ = _
    unfold textS textL
    rw [mapD_eq, List.flatMap_map]
    congr 2
    refine flatMap_same _ fun c hc => ?_
    obtain ⟨h1, h2⟩ := h c (hrg c hc)
    have h3 : 0 ≤ g c := by unfold chr at h2; simp at h2; omega
    show (if chr (f c) = true then encodeRune (f c) else []) = _
    rw [h1, if_pos h2, if_pos h3]
  · rw [if_neg hv] at hr
    rw [hr, if_neg hv]
theorem rhira_eq (s : ByteArray) : refMap hiraR s = eachS hiraF s := refMap_eq _ _ s fun c hc => by
  unfold hiraR hiraF classOf btw
  unfold chr at hc ⊢
  simp only [decide_eq_true_eq] at hc ⊢
  constructor
  · (repeat' split) <;> first | rfl | omega
  · (repeat' split) <;> omega
theorem rkata_eq (s : ByteArray) : refMap kataF s = eachS kataF s := refMap_eq _ _ s fun c hc => by
  refine ⟨rfl, ?_⟩
  unfold kataF classOf
  unfold chr at hc ⊢
  simp only [decide_eq_true_eq] at hc ⊢
  (repeat' split) <;> omega
theorem rwide_eq (s : ByteArray) : refMap wideR s = eachS wideF s := refMap_eq _ _ s fun c hc => by
  unfold wideR wideF classOf btw
  unfold chr at hc ⊢
  simp only [decide_eq_true_eq] at hc ⊢
  constructor
  · (repeat' split) <;> first | rfl | omega
  · (repeat' split) <;> omega
end Go.Proofs
end

section
/-
  Plain: Half and Full of the reference are the program's.
-/
namespace Go.Proofs
open Go.RowKit Go.Shelf Go.Lib
theorem halfFrom_eq (s : ByteArray) : ∀ (f pos : Nat), halfFrom s f pos = (runesGo s f pos).flatMap halfC
  | 0, _ => by simp [halfFrom, runesGo]
  | f + 1, pos => by
    unfold halfFrom runesGo
    by_cases hp : pos < s.size
    · rw [if_pos hp, if_pos hp, halfFrom_eq s f]; simp
    · rw [if_neg hp, if_neg hp]; simp
def fkeys : List Int := formsT.map (·.1)
def halfOk (k : Int) : Bool := match formsT.lookup k with
  | some h => !(halfR k).isEmpty && decide ((halfR k).flatMap Lib.encodeRune = h.data.toList) && (halfR k).all chr
  | none => false
theorem half_keys : fkeys.all halfOk = true := by kernel_rfl
theorem halfA_key : ∀ (l : List Int) (i : Nat) (c : Int), c ∉ l → halfA i l c = none
  | [], _, _, _ => by rw [halfA]
  | t :: l, i, c, h => by
    rw [halfA, if_neg (fun e => h (by rw [e]; exact List.mem_cons_self)), halfA_key l _ _ fun hm => h (List.mem_cons_of_mem _ hm)]
theorem halfB_key : ∀ (l : List Int) (i : Nat) (c : Int), (∀ t ∈ l, markedF t 65438 ≠ c ∧ markedF t 65439 ≠ c) → halfB i l c = none
  | [], _, _, _ => by rw [halfB]
  | t :: l, i, c, h => by
    rw [halfB, if_neg (h t List.mem_cons_self).1, if_neg (h t List.mem_cons_self).2, halfB_key l _ _ fun x hx => h x (List.mem_cons_of_mem _ hx)]
theorem tab_keys : tableL.all (fun t => fkeys.contains t && (markedF t 65438 == 0 || fkeys.contains (markedF t 65438)) && (markedF t 65439 == 0 || fkeys.contains (markedF t 65439))) = true := by kernel_rfl
theorem half_none (c : Int) (h0 : c ≠ 0) (h : c ∉ fkeys) : halfR c = [] := by
  have hk := List.all_eq_true.1 tab_keys
  unfold halfR
  rw [halfA_key, halfB_key]
  · rfl
  · intro t ht
    have := hk t ht
    simp only [Bool.and_eq_true, Bool.or_eq_true, beq_iff_eq, List.contains_iff_mem] at this
    constructor
    · intro e
      rcases this.1.2 with h1 | h1
      · omega
      · rw [e] at h1; exact h h1
    · intro e
      rcases this.2 with h1 | h1
      · omega
      · rw [e] at h1; exact h h1
  · intro hm
    have := hk c hm
    simp only [Bool.and_eq_true, List.contains_iff_mem] at this
    exact h this.1.1
theorem lookup_key {β : Type} : ∀ (l : List (Int × β)) (k : Int), l.lookup k = none ↔ k ∉ l.map (·.1)
  | [], k => by simp
  | (a, b) :: l, k => by
    rw [List.lookup_cons]
    by_cases h : k = a
    · subst h; simp
    · have : (k == a) = false := by simpa using h
      rw [this]
      simp [lookup_key l k, h]
theorem halfX_eq (c : Int) (hc : chr c = true) : (halfX c).flatMap (fun c => if chr c = true then Lib.encodeRune c else []) = halfC c := by
  unfold halfX halfC
  have hk0 : kataF c = 0 ↔ c = 0 := by
    unfold chr at hc
    simp only [decide_eq_true_eq] at hc
    unfold kataF
    split
    · rename_i h; have := class_1 h; omega
    · exact Iff.rfl
  cases hl : formsT.lookup (kataF c) with
  | none =>
    have hn := (lookup_key _ _).1 hl
    have h1 : halfR (kataF c) = [] ∨ c = 0 := by
      by_cases h0 : c = 0
      · exact .inr h0
      · exact .inl (half_none _ (fun h => h0 (hk0.1 h)) hn)
    rw [if_pos h1]
    simp [hc]
  | some h =>
    have hm : kataF c ∈ fkeys := by
      by_cases hm : kataF c ∈ fkeys
      · exact hm
      · rw [(lookup_key _ _).2 hm] at hl; cases hl
    have ho := List.all_eq_true.1 half_keys _ hm
    unfold halfOk at ho
    rw [hl] at ho
    simp only [Bool.and_eq_true, decide_eq_true_eq, Bool.not_eq_true', List.all_eq_true, List.isEmpty_eq_false_iff] at ho
    obtain ⟨⟨h1, h2⟩, h3⟩ := ho
    have h0 : c ≠ 0 := by
      rintro rfl
      have : (0 : Int) ∈ fkeys := by rw [hk0.2 rfl] at hm; exact hm
      exact absurd this (by decide)
    rw [if_neg (by simp [h1, h0])]
    show _ = h.data.toList
    rw [← h2]
    exact flatMap_same _ fun x hx => by rw [if_pos (h3 x hx)]
theorem rhalf_eq (s : ByteArray) : rhalfS s = halfS s := by
  unfold rhalfS halfS
  have hr := refRunes_eq s
  by_cases hv : Lib.validD s.data.toList = true
  · rw [if_pos hv] at hr
    have hrg := refRunes_range hr
    rw [hr, if_pos hv]
    show textS _ = _
    unfold textS textL
    rw [halfFrom_eq, List.flatMap_assoc]
    congr 2
    exact flatMap_same _ fun c hc => halfX_eq c (hrg c hc)
  · rw [if_neg hv] at hr
    rw [hr, if_neg hv]
end Go.Proofs
end

section
/-
  Plain: Full of the reference is the program's; all four forms agree.
-/
namespace Go.Proofs
open Go.RowKit Go.Shelf Go.Lib
theorem chr_iff (c : Int) : chr c = true ↔ 0 ≤ c ∧ c ≤ 1114111 ∧ (c < 55296 ∨ 57343 < c) := by unfold chr; simp
theorem byte_ofNat (n : Nat) (z : Int) (h : z = n) : z.toNat.toUInt8 = UInt8.ofNat n := by subst h; simp [Nat.toUInt8]
theorem encode_rune (c : Int) (hc : chr c = true) : (Utf8.encode c).data.toList = Lib.encodeRune c := by
  have h := (chr_iff c).1 hc
  have hv : Utf8.valid c = true := by unfold Utf8.valid; simp; omega
  obtain ⟨n, rfl⟩ : ∃ n : Nat, c = n := ⟨c.toNat, by omega⟩
  unfold Utf8.encode Lib.encodeRune
  simp only [hv, if_true, Int.toNat_natCast]
  by_cases h1 : n < 128
  · rw [if_pos h1, Lib.encodeRuneZ_one (by omega) (by omega)]
    simp [byte_ofNat n n rfl]
  · rw [if_neg h1]
    by_cases h2 : n < 2048
    · rw [if_pos h2, Lib.encodeRuneZ_two (by omega) (by omega)]
      simp only [List.map_cons, List.map_nil]
      rw [byte_ofNat (192 + n / 64) _ (by omega), byte_ofNat (128 + n % 64) _ (by omega)]
    · rw [if_neg h2]
      by_cases h3 : n < 65536
      · rw [if_pos h3, Lib.encodeRuneZ_three (by omega)]
        simp only [List.map_cons, List.map_nil]
        rw [byte_ofNat (224 + n / 4096) _ (by omega), byte_ofNat (128 + n / 64 % 64) _ (by omega), byte_ofNat (128 + n % 64) _ (by omega)]
      · rw [if_neg h3, Lib.encodeRuneZ_four (by omega) (by omega)]
        simp only [List.map_cons, List.map_nil]
        rw [byte_ofNat (240 + n / 262144) _ (by omega), byte_ofNat (128 + n / 4096 % 64) _ (by omega), byte_ofNat (128 + n / 64 % 64) _ (by omega), byte_ofNat (128 + n % 64) _ (by omega)]
theorem runes_bytes : ∀ (l : List Int), (∀ c ∈ l, chr c = true) → (runesBytes l).data.toList = l.flatMap Lib.encodeRune := by
  have key : ∀ (l : List Int) (r : ByteArray), (∀ c ∈ l, chr c = true) → (l.foldl (fun r n => r ++ Utf8.encode n) r).data.toList = r.data.toList ++ l.flatMap Lib.encodeRune := by
    intro l
    induction l with
    | nil => intro r _; simp
    | cons c l ih =>
      intro r h
      rw [List.foldl_cons, ih _ fun c hc => h c (List.mem_cons_of_mem _ hc), List.flatMap_cons, ← List.append_assoc]
      congr 1
      rw [ByteArray.data_append, Array.toList_append, encode_rune c (h c List.mem_cons_self)]
  intro l h
  have := key l ByteArray.empty h
  unfold runesBytes
  rw [this]
  rfl
/-! ### codes are prefix-free -/
def byteZ (b : UInt8) : Int := b.toNat
theorem encZ (c : Int) (hc : chr c = true) : (Lib.encodeRune c).map byteZ = Lib.encodeRuneZ c := by
  have h := (chr_iff c).1 hc
  have hb : ∀ x ∈ Lib.encodeRuneZ c, 0 ≤ x ∧ x ≤ 255 := by
    by_cases h1 : c < 128
    · rw [Lib.encodeRuneZ_one (by omega) (by omega)]; intro x hx; simp at hx; omega
    · by_cases h2 : c < 2048
      · rw [Lib.encodeRuneZ_two (by omega) (by omega)]; intro x hx; simp at hx; omega
      · by_cases h3 : c < 65536
        · rw [Lib.encodeRuneZ_three (by omega)]; intro x hx; simp at hx; omega
        · rw [Lib.encodeRuneZ_four (by omega) (by omega)]; intro x hx; simp at hx; omega
  unfold Lib.encodeRune
  rw [List.map_map]
  have : ∀ (l : List Int), (∀ x ∈ l, 0 ≤ x ∧ x ≤ 255) → l.map (byteZ ∘ fun x => x.toNat.toUInt8) = l := by
    intro l
    induction l with
    | nil => intro _; rfl
    | cons x l ih =>
      intro h
      rw [List.map_cons, ih fun y hy => h y (List.mem_cons_of_mem _ hy)]
      have := h x List.mem_cons_self
      congr 1
      show ((x.toNat.toUInt8).toNat : Int) = x
      rw [Nat.toUInt8, UInt8.toNat_ofNat']
      omega
  exact this _ hb
theorem encZ_inj (c d : Int) (x y : List Int) (hc : chr c = true) (hd : chr d = true) (h : Lib.encodeRuneZ c ++ x = Lib.encodeRuneZ d ++ y) : c = d ∧ x = y := by
  have ic := (chr_iff c).1 hc
  have id := (chr_iff d).1 hd
  have sh : ∀ c : Int, 0 ≤ c ∧ c ≤ 1114111 ∧ (c < 55296 ∨ 57343 < c) → (c < 128 ∧ Lib.encodeRuneZ c = [c]) ∨ (128 ≤ c ∧ c < 2048 ∧ Lib.encodeRuneZ c = [192 + c / 64, 128 + c % 64]) ∨ (2048 ≤ c ∧ c < 65536 ∧ Lib.encodeRuneZ c = [224 + c / 4096, 128 + c / 64 % 64, 128 + c % 64]) ∨ (65536 ≤ c ∧ Lib.encodeRuneZ c = [240 + c / 262144, 128 + c / 4096 % 64, 128 + c / 64 % 64, 128 + c % 64]) := by
    intro c h
    by_cases h1 : c < 128
    · exact .inl ⟨h1, Lib.encodeRuneZ_one (by omega) (by omega)⟩
    · by_cases h2 : c < 2048
      · exact .inr (.inl ⟨by omega, h2, Lib.encodeRuneZ_two (by omega) (by omega)⟩)
      · by_cases h3 : c < 65536
        · exact .inr (.inr (.inl ⟨by omega, h3, Lib.encodeRuneZ_three (by omega)⟩))
        · exact .inr (.inr (.inr ⟨by omega, Lib.encodeRuneZ_four (by omega) (by omega)⟩))
  rcases sh c ic with ⟨c1, ec⟩ | ⟨c1, c2, ec⟩ | ⟨c1, c2, ec⟩ | ⟨c1, ec⟩ <;> rcases sh d id with ⟨d1, ed⟩ | ⟨d1, d2, ed⟩ | ⟨d1, d2, ed⟩ | ⟨d1, ed⟩ <;> rw [ec, ed] at h <;> simp only [List.cons_append, List.nil_append, List.cons.injEq] at h
  all_goals first
    | (exfalso; omega)
    | exact ⟨by omega, h.2⟩
    | exact ⟨by omega, h.2.2⟩
    | exact ⟨by omega, h.2.2.2⟩
    | exact ⟨by omega, h.2.2.2.2⟩
theorem flat_inj : ∀ (l k : List Int), (∀ c ∈ l, chr c = true) → (∀ c ∈ k, chr c = true) → l.flatMap Lib.encodeRuneZ = k.flatMap Lib.encodeRuneZ → l = k
  | [], [], _, _, _ => rfl
  | [], c :: k, _, hk, h => by
    exfalso
    have := encZ_inj c c [] [] (hk c List.mem_cons_self) (hk c List.mem_cons_self) rfl
    have hl : (Lib.encodeRuneZ c) = [] := by
      simp at h
      exact h.1
    have ic := (chr_iff c).1 (hk c List.mem_cons_self)
    by_cases h1 : c < 128
    · rw [Lib.encodeRuneZ_one (by omega) (by omega)] at hl; cases hl
    · by_cases h2 : c < 2048
      · rw [Lib.encodeRuneZ_two (by omega) (by omega)] at hl; cases hl
      · by_cases h3 : c < 65536
        · rw [Lib.encodeRuneZ_three (by omega)] at hl; cases hl
        · rw [Lib.encodeRuneZ_four (by omega) (by omega)] at hl; cases hl
  | c :: l, [], hl, _, h => by
    exfalso
    have hl' : (Lib.encodeRuneZ c) = [] := by
      simp at h
      exact h.1
    have ic := (chr_iff c).1 (hl c List.mem_cons_self)
    by_cases h1 : c < 128
    · rw [Lib.encodeRuneZ_one (by omega) (by omega)] at hl'; cases hl'
    · by_cases h2 : c < 2048
      · rw [Lib.encodeRuneZ_two (by omega) (by omega)] at hl'; cases hl'
      · by_cases h3 : c < 65536
        · rw [Lib.encodeRuneZ_three (by omega)] at hl'; cases hl'
        · rw [Lib.encodeRuneZ_four (by omega) (by omega)] at hl'; cases hl'
  | c :: l, d :: k, hl, hk, h => by
    rw [List.flatMap_cons, List.flatMap_cons] at h
    obtain ⟨h1, h2⟩ := encZ_inj c d _ _ (hl c List.mem_cons_self) (hk d List.mem_cons_self) h
    rw [h1, flat_inj l k (fun c hc => hl c (List.mem_cons_of_mem _ hc)) (fun c hc => hk c (List.mem_cons_of_mem _ hc)) h2]
theorem runes_inj (l k : List Int) (hl : ∀ c ∈ l, chr c = true) (hk : ∀ c ∈ k, chr c = true) (h : runesBytes l = runesBytes k) : l = k := by
  have h1 := runes_bytes l hl
  rw [h, runes_bytes k hk] at h1
  have h2 := congrArg (List.map byteZ) h1
  rw [List.map_flatMap, List.map_flatMap] at h2
  have e : ∀ (l : List Int), (∀ c ∈ l, chr c = true) → (l.flatMap fun a => List.map byteZ (Lib.encodeRune a)) = l.flatMap Lib.encodeRuneZ := by
    intro l
    induction l with
    | nil => intro _; rfl
    | cons c l ih => intro h; rw [List.flatMap_cons, List.flatMap_cons, encZ c (h c List.mem_cons_self), ih fun c hc => h c (List.mem_cons_of_mem _ hc)]
  rw [e k hk, e l hl] at h2
  exact (flat_inj k l hk hl h2).symm
/-! ### the table, by its characters -/
def fullK : List (List Int × Int) := [([65438], 12443), ([65439], 12444)] ++ formsT.map fun p => (runesL p.2, p.1)
theorem fullT_K : fullT = fullK.map fun p => (runesBytes p.1, Utf8.encode p.2) := by kernel_rfl
theorem fullK_chr : fullK.all (fun p => p.1.all chr && chr p.2) = true := by kernel_rfl
theorem lookup_inj (k : List Int) (hk : ∀ c ∈ k, chr c = true) : ∀ (l : List (List Int × Int)), (∀ p ∈ l, ∀ c ∈ p.1, chr c = true) → (l.map fun p => (runesBytes p.1, Utf8.encode p.2)).lookup (runesBytes k) = (l.lookup k).map Utf8.encode
  | [], _ => rfl
  | (a, b) :: l, h => by
    rw [List.map_cons, List.lookup_cons, List.lookup_cons]
    have ih := lookup_inj k hk l fun p hp => h p (List.mem_cons_of_mem _ hp)
    by_cases he : k = a
    · subst he
      rw [show (runesBytes k == runesBytes k) = true by rw [ba_beq]; simp, show (k == k) = true by simp]
      rfl
    · have h1 : (runesBytes k == runesBytes a) = false := by
        rw [ba_beq]
        have : runesBytes k ≠ runesBytes a := fun e => he (runes_inj k a hk (h _ List.mem_cons_self) e)
        simpa using this
      have h2 : (k == a) = false := by simpa using he
      rw [h1, h2]
      exact ih
theorem fullT_lookup (k : List Int) (hk : ∀ c ∈ k, chr c = true) : fullT.lookup (runesBytes k) = (fullK.lookup k).map Utf8.encode := by
  rw [fullT_K]
  refine lookup_inj k hk _ fun p hp => ?_
  have := List.all_eq_true.1 fullK_chr p hp
  simp only [Bool.and_eq_true, List.all_eq_true] at this
  exact this.1
theorem lookup_nokey (k : List Int) : ∀ (l : List (List Int × Int)), (∀ p ∈ l, p.1 ≠ k) → l.lookup k = none
  | [], _ => rfl
  | (a, b) :: l, h => by
    rw [List.lookup_cons, show (k == a) = false by simpa using fun e => h _ List.mem_cons_self e.symm]
    exact lookup_nokey k l fun p hp => h p (List.mem_cons_of_mem _ hp)
def inT (c : Int) : Bool := decide (65377 ≤ c ∧ c ≤ 65437)
theorem fullK_shape : fullK.all (fun p => match p.1 with
  | [c] => inT c || c == 65438 || c == 65439
  | [c, d] => inT c && (d == 65438 || d == 65439)
  | _ => false) = true := by kernel_rfl
theorem fullK_pairs : (List.range 61).all (fun i => [65438, 65439].all fun d => fullK.lookup [65377 + (i : Int), d] == (if markedF (tableL.getD i 0) d ≠ 0 then some (markedF (tableL.getD i 0) d) else none)) = true := by kernel_rfl
theorem fullK_ones : (List.range 61).all (fun i => fullK.lookup [65377 + (i : Int)] == some (tableL.getD i 0)) = true := by kernel_rfl
theorem fullK_marks : fullK.lookup [65438] = some 12443 ∧ fullK.lookup [65439] = some 12444 := by constructor <;> kernel_rfl
theorem pair_law (c d : Int) : fullK.lookup [c, d] = if pairC c d ≠ 0 then some (pairC c d) else none := by
  by_cases hc : btw c 65377 65437 = true
  · have hc' : 65377 ≤ c ∧ c ≤ 65437 := by unfold btw at hc; simpa using hc
    have hp : pairC c d = markedF (tableL.getD (c - 65377).toNat 0) d := by unfold pairC fullC; rw [if_pos hc, if_pos hc]
    rw [hp]
    by_cases hd : d = 65438 ∨ d = 65439
    · have h := List.all_eq_true.1 fullK_pairs (c - 65377).toNat (List.mem_range.2 (by omega))
      have h2 := List.all_eq_true.1 h d (by simp; exact hd)
      rw [show (65377 + (((c - 65377).toNat : Nat) : Int)) = c by omega] at h2
      simpa using h2
    · have hm : ∀ t, markedF t d = 0 := fun t => by
        unfold markedF
        rw [if_neg (fun h => hd (.inl h.1)), if_neg (fun h => hd (.inl h.1)), if_neg (fun h => hd (.inr h.1))]
      rw [hm, if_neg (by simp)]
      refine lookup_nokey _ _ fun p hpm e => ?_
      have := List.all_eq_true.1 fullK_shape p hpm
      rw [e] at this
      simp only [Bool.and_eq_true, Bool.or_eq_true, beq_iff_eq] at this
      exact hd this.2
  · have hp : pairC c d = 0 := by unfold pairC; rw [if_neg hc]
    rw [hp, if_neg (by simp)]
    refine lookup_nokey _ _ fun p hpm e => ?_
    have := List.all_eq_true.1 fullK_shape p hpm
    rw [e] at this
    simp only [Bool.and_eq_true, Bool.or_eq_true, beq_iff_eq] at this
    exact hc this.1
theorem one_law (c : Int) : fullK.lookup [c] = if btw c 65377 65437 = true ∨ c = 65438 ∨ c = 65439 then some (fullC c) else none := by
  by_cases hc : btw c 65377 65437 = true
  · have hc' : 65377 ≤ c ∧ c ≤ 65437 := by unfold btw at hc; simpa using hc
    rw [if_pos (.inl hc)]
    have h := List.all_eq_true.1 fullK_ones (c - 65377).toNat (List.mem_range.2 (by omega))
    rw [show (65377 + (((c - 65377).toNat : Nat) : Int)) = c by omega] at h
    unfold fullC
    rw [if_pos hc]
    simpa using h
  · by_cases h1 : c = 65438
    · subst h1
      rw [if_pos (.inr (.inl rfl)), fullK_marks.1]; rfl
    · by_cases h2 : c = 65439
      · subst h2
        rw [if_pos (.inr (.inr rfl)), fullK_marks.2]; rfl
      · rw [if_neg (by rintro (h | h | h) <;> contradiction)]
        refine lookup_nokey _ _ fun p hpm e => ?_
        have := List.all_eq_true.1 fullK_shape p hpm
        rw [e] at this
        simp only [Bool.or_eq_true, beq_iff_eq] at this
        rcases this with (h | h) | h
        · exact hc h
        · exact h1 h
        · exact h2 h
theorem lookupK_chr {k : List Int} {v : Int} (h : fullK.lookup k = some v) : chr v = true := by
  have : ∀ (l : List (List Int × Int)), l.lookup k = some v → ∃ p ∈ l, p.2 = v := by
    intro l
    induction l with
    | nil => intro h; cases h
    | cons p l ih =>
      obtain ⟨a, b⟩ := p
      intro h
      rw [List.lookup_cons] at h
      split at h
      · cases h; exact ⟨_, List.mem_cons_self, rfl⟩
      · obtain ⟨p, hp, e⟩ := ih h
        exact ⟨p, List.mem_cons_of_mem _ hp, e⟩
  obtain ⟨p, hp, rfl⟩ := this _ h
  have := List.all_eq_true.1 fullK_chr p hp
  simp only [Bool.and_eq_true] at this
  exact this.2
theorem fullC_chr (c : Int) (hc : chr c = true) : chr (fullC c) = true := by
  have h := one_law c
  by_cases h1 : btw c 65377 65437 = true ∨ c = 65438 ∨ c = 65439
  · rw [if_pos h1] at h
    exact lookupK_chr h
  · unfold fullC
    rw [if_neg (fun h => h1 (.inl h)), if_neg (fun h => h1 (.inr (.inl h))), if_neg (fun h => h1 (.inr (.inr h)))]
    exact hc
theorem oneF_eq (c : Int) (hc : chr c = true) : oneF c = Lib.encodeRune (fullC c) := by
  have hk : ∀ x ∈ [c], chr x = true := by intro x hx; simp at hx; subst hx; exact hc
  have h := fullT_lookup [c] hk
  have hb : runesBytes [c] = Utf8.encode c := by
    unfold runesBytes
    rw [List.foldl_cons, List.foldl_nil]
    apply ByteArray.ext
    rw [ByteArray.data_append]
    exact Array.empty_append
  rw [hb, one_law] at h
  unfold oneF
  by_cases h1 : btw c 65377 65437 = true ∨ c = 65438 ∨ c = 65439
  · rw [if_pos h1] at h
    rw [h]
    exact encode_rune _ (fullC_chr c hc)
  · rw [if_neg h1] at h
    rw [h]
    unfold fullC
    rw [if_neg (fun h => h1 (.inl h)), if_neg (fun h => h1 (.inr (.inl h))), if_neg (fun h => h1 (.inr (.inr h)))]
    rfl
theorem fullGo_eq : ∀ (f : Nat) (l : List Int), l.length ≤ f → (∀ c ∈ l, chr c = true) → fullGo f l = (refFullGo l).flatMap (fun c => if chr c = true then Lib.encodeRune c else [])
  | 0, [], _, _ => by simp [fullGo, refFullGo]
  | 0, _ :: _, h, _ => by simp at h
  | f + 1, [], _, _ => by simp [fullGo, refFullGo]
  | f + 1, [c], _, hc => by
    have h1 := hc c List.mem_cons_self
    have h0 : fullGo f [] = [] := by cases f <;> simp [fullGo]
    unfold refFullGo
    rw [fullGo, oneF_eq c h1, h0]
    simp [fullC_chr c h1]
  | f + 1, c :: d :: l, hl, hc => by
    have h1 := hc c List.mem_cons_self
    have hk : ∀ x ∈ [c, d], chr x = true := by
      intro x hx
      simp at hx
      rcases hx with rfl | rfl
      · exact h1
      · exact hc _ (List.mem_cons_of_mem _ List.mem_cons_self)
    have hp := fullT_lookup [c, d] hk
    have hpl := pair_law c d
    rw [hpl] at hp
    simp only [List.length_cons] at hl
    unfold refFullGo
    by_cases h0 : pairC c d ≠ 0
    · rw [if_pos h0] at hp hpl
      rw [if_pos h0, fullGo_pair _ _ _ _ _ hp, fullGo_eq f l (by omega) fun x hx => hc x (List.mem_cons_of_mem _ (List.mem_cons_of_mem _ hx)), List.flatMap_cons, if_pos (lookupK_chr hpl), encode_rune _ (lookupK_chr hpl)]
    · rw [if_neg h0] at hp
      rw [if_neg h0, fullGo_two _ _ _ _ hp, fullGo_eq f (d :: l) (by simp; omega) fun x hx => hc x (List.mem_cons_of_mem _ hx), List.flatMap_cons, if_pos (fullC_chr c h1), oneF_eq c h1]
theorem rfull_eq (s : ByteArray) : rfullS s = fullS s := by
  unfold rfullS fullS
  have hr := refRunes_eq s
  by_cases hv : Lib.validD s.data.toList = true
  · rw [if_pos hv] at hr
    have hrg := refRunes_range hr
    rw [hr, if_pos hv]
    show textS _ = _
    unfold textS textL
    rw [fullGo_eq _ _ (Nat.le_refl _) hrg]
  · rw [if_neg hv] at hr
    rw [hr, if_neg hv]
/-- The reference's four texts are the program's. -/
theorem fourR_eq (s : ByteArray) : [refMap hiraR (rfullS s), refMap kataF (rfullS s), rhalfS s, refMap wideR s] = fourK s := by
  rw [rfull_eq, rhira_eq, rkata_eq, rhalf_eq, rwide_eq]; rfl
end Go.Proofs
end

section
/-
  The reference's Kana, and 'same' at two equal rows.
-/
namespace Go.Proofs
open Go.RowKit Go.Shelf Go.Lib
theorem row_formsS {W : World} {B e : Nat} {v : Value} {L : List ByteArray} (h : W.ownsRow B e 1 v L.length (L.map Value.string)) :
    ∃ ao cap, v = .slice ao L.length cap ∧ (0 < L.length → ∃ g, ao = some ⟨g, 0, none⟩ ∧ B ≤ g ∧ g < W.heap.size ∧ ∀ j, j < L.length → W.cell? ⟨g, j, none⟩ = some (.string (L.getD j .empty))) := by
  rcases h.2 with ⟨rfl, h0⟩ | ⟨g, cap, cur, rfl, h2, h3, _⟩
  · exact ⟨none, 0, by rw [h0], fun h => by omega⟩
  · refine ⟨_, cap, rfl, fun h0 => ⟨g, rfl, h2, (Array.getElem?_eq_some_iff.1 h3).1, fun j hj => ?_⟩⟩
    rw [h.cellAt j (by omega), List.getElem?_map, List.getElem?_eq_getElem hj]
    simp [List.getD, List.getElem?_eq_getElem hj]
theorem below_drewN {B : Nat} {a w : World} (h : Below B a w) (q : Nat) : Below B a (w.drewN q) := ⟨h.os, h.tape, h.output, h.size, h.block⟩
set_option maxHeartbeats 4000000 in
set_option maxRecDepth 1000000 in
theorem Tryz.same5 (Ba Bb : Nat) (X : List ByteArray) (va vb : Value) (w : World) (ha : w.ownsRow Ba 9 1 va X.length (X.map Value.string)) (hb : w.ownsRow Bb 9 1 vb X.length (X.map Value.string)) (hX : X.length ≤ 1000000) :
    Calls Tryz.prog 4 #[va, vb] w fun e w' => e = .returned (.bool true) ∧ Below w.heap.size w w' := by
  obtain ⟨aa, ca, rfl, hra⟩ := row_formsS ha
  obtain ⟨ab, cb, rfl, hrb⟩ := row_formsS hb
  have HA := Lib.hid hra
  have HB := Lib.hid hrb
  clear ha hb hra hrb
  go_enter Tryz.func4, Tryz.ntmps4
  go_wp2
  go_loopw [5] (fun vi wr => ∃ k : Nat, vi = .int .i64 k ∧ k ≤ X.length ∧ Below w.heap.size w wr) (fun vi _ => X.length - natK vi)
  case atStart => exact ⟨0, rfl, by omega, Below.refl _ _⟩
  case round =>
    obtain ⟨k, rfl, hk, hbr⟩ := hrel
    by_cases hlt : k < X.length
    · obtain ⟨ga, rfl, _, hga, hca⟩ := HA.out (by omega)
      obtain ⟨gb, rfl, _, hgb, hcb⟩ := HB.out (by omega)
      have h1 := (hbr.cell (p := ⟨ga, k, none⟩) hga).trans (hca k hlt)
      have h2 := (hbr.cell (p := ⟨gb, k, none⟩) hgb).trans (hcb k hlt)
      obtain ⟨x, hx⟩ : ∃ x, X.getD k .empty = x := ⟨_, rfl⟩
      rw [hx] at h1 h2
      have hltI : (k : Int) < (X.length : Int) := by omega
      clear hx hca hcb
      go_wp2
      go_quiet (fail)
      go_wp2
      go_roundw
      case rel => exact ⟨k + 1, by simp, by omega, below_drewN hbr _⟩
      case measure => simp [natK]; omega
    · go_wp2
      go_ret
      exact ⟨rfl, hbr⟩
theorem contains_step {out : List ByteArray} {j : Nat} (h : j < out.length) (x : ByteArray) : Lib.containsS (out.take (j + 1)) x = (Lib.containsS (out.take j) x || out.getD j .empty == x) := by
  rw [Bool.eq_iff_iff, Bool.or_eq_true, Lib.containsS_iff, Lib.containsS_iff, ba_beq, decide_eq_true_eq, List.take_add_one, List.getElem?_eq_getElem h, List.mem_append]
  have e : out.getD j .empty = out[j] := by simp [List.getD, List.getElem?_eq_getElem h]
  rw [e, Option.toList_some, List.mem_singleton]
  exact or_congr Iff.rfl ⟨Eq.symm, Eq.symm⟩
theorem contains_nil (x : ByteArray) : Lib.containsS [] x = false := rfl
set_option maxHeartbeats 8000000 in
set_option maxRecDepth 1000000 in
theorem Tryz.rkana4 (s : ByteArray) (w : World) (hs : s.size ≤ 4000) :
    Calls Tryz.prog 6 #[.string s] w fun e w' => ∃ v, e = .returned v ∧ w'.ownsRow w.heap.size 9 1 v (dedup [] (fourK s)).length ((dedup [] (fourK s)).map Value.string) ∧ Below w.heap.size w w' := by
  obtain ⟨i0, hi, hz0, hz1, hz2⟩ := info_parts Tryz.info9
  have hfl := fullS_le s
  rw [← fourR_eq s]
  have c13 := fun W => Tryz.rfull13 s W (by omega)
  rw [rfull_eq] at c13 ⊢
  have c12 := fun W => Tryz.rhira12 (fullS s) W (by omega)
  have c14 := fun W => Tryz.rkata14 (fullS s) W (by omega)
  have c15 := fun W => Tryz.rhalf15 s W (by omega)
  have c16 := fun W => Tryz.rwide16 s W (by omega)
  obtain ⟨F, hFS⟩ : ∃ F, fullS s = F := ⟨_, rfl⟩
  rw [hFS] at c13 c12 c14 ⊢
  clear hFS hfl
  obtain ⟨t1, ht1⟩ : ∃ t, refMap hiraR F = t := ⟨_, rfl⟩
  obtain ⟨t2, ht2⟩ : ∃ t, refMap kataF F = t := ⟨_, rfl⟩
  obtain ⟨t3, ht3⟩ : ∃ t, rhalfS s = t := ⟨_, rfl⟩
  obtain ⟨t4, ht4⟩ : ∃ t, refMap wideR s = t := ⟨_, rfl⟩
  rw [ht1] at c12
  rw [ht2] at c14
  rw [ht3] at c15
  rw [ht4] at c16
  rw [ht1, ht2, ht3, ht4]
  obtain ⟨Q4, hQ⟩ : ∃ q, [t1, t2, t3, t4] = q := ⟨_, rfl⟩
  rw [hQ]
  obtain ⟨ANS, hANS⟩ : ∃ A, dedup [] Q4 = A := ⟨_, rfl⟩
  rw [hANS]
  have HQ := Lib.hid hQ
  have HANS := Lib.hid hANS
  clear hQ hANS ht1 ht2 ht3 ht4
  have bA := Below.refl w.heap.size w
  have zA := bA.size
  go_enter Tryz.func6, Tryz.ntmps6
  go_wp2_with (first
    | (go_at_call 15; refine (c13 _).mono ?_; rintro e w5 ⟨rfl, b1⟩; have bA := bA.trans (b1.mono zA); have zA := bA.size)
    | (go_at_call 14; refine (c12 _).mono ?_; rintro e w5 ⟨rfl, b1⟩; have bA := bA.trans (b1.mono zA); have zA := bA.size)
    | (go_at_call 16; refine (c14 _).mono ?_; rintro e w5 ⟨rfl, b1⟩; have bA := bA.trans (b1.mono zA); have zA := bA.size)
    | (go_at_call 17; refine (c15 _).mono ?_; rintro e w5 ⟨rfl, b1⟩; have bA := bA.trans (b1.mono zA); have zA := bA.size)
    | (go_at_call 18; refine (c16 _).mono ?_; rintro e w5 ⟨rfl, b1⟩; have bA := bA.trans (b1.mono zA); have zA := bA.size))
  have hql : Q4.length = 4 := by rw [← HQ.out]; rfl
  have hcell : ∀ j, j < 4 → (w5.alloc (.cells #[.string t1, .string t2, .string t3, .string t4] 9)).cell? ⟨w5.heap.size, j, none⟩ = some (.string (Q4.getD j .empty)) := by
    intro j hj
    have hh := (MapKept.heap_alloc w5 (.cells #[.string t1, .string t2, .string t3, .string t4] 9)).1
    rw [← HQ.out]
    unfold World.cell?
    rw [hh]
    rcases (by omega : j = 0 ∨ j = 1 ∨ j = 2 ∨ j = 3) with rfl | rfl | rfl | rfl <;> rfl
  have hbw : Below w.heap.size w (w5.alloc (.cells #[.string t1, .string t2, .string t3, .string t4] 9)) := bA.alloc zA _
  obtain ⟨W0, hW0⟩ : ∃ W0, W0 = w5.alloc (.cells #[.string t1, .string t2, .string t3, .string t4] 9) := ⟨_, rfl⟩
  have hz0' : W0.heap.size = w5.heap.size + 1 := by rw [hW0]; simp
  rw [← hW0] at hcell hbw ⊢
  clear hW0 c12 c13 c14 c15 c16
  go_loopw [4, 5] (fun v i wr => ∃ (k : Nat) (out rest : List ByteArray), i = .int .i64 k ∧ k + rest.length = 4 ∧ rest = Q4.drop k ∧ out.length ≤ k ∧ dedup out rest = ANS ∧ wr.ownsRow W0.heap.size 9 1 v out.length (out.map Value.string) ∧ Below W0.heap.size W0 wr)
    (fun _ i _ => 4 - natK i)
  case atStart => exact ⟨0, [], Q4, rfl, by simp [hql], rfl, Nat.le_refl _, HANS.out, World.ownsRow_nil _ _ _ _, Below.refl _ _⟩
  case round =>
    obtain ⟨k, out, rest, rfl, hk, hrest, hol, hded, hown, hbr⟩ := hrel
    have HR := Lib.hid hrest
    have HD := Lib.hid hded
    have HC := Lib.hid hcell
    have hbz := hbr.size
    clear hrest hded hcell
    rcases rest with _ | ⟨x, rest⟩
    · simp only [List.length_nil, Nat.add_zero] at hk
      subst hk
      have HO := Lib.hid hown
      clear hown
      go_wp2
      go_ret
      have ha : out = ANS := by have := HD.out; simpa [dedup] using this
      refine ⟨_, rfl, ?_, hbw.trans (hbr.mono hbw.size)⟩
      rw [← ha]
      exact ownsRow_base HO.out (by have := hbw.size; omega)
    · have hk4 : k < 4 := by simp only [List.length_cons] at hk; omega
      have hx : Q4.getD k .empty = x := by
        have h1 : (Q4.drop k)[0]? = some x := by rw [← HR.out]; rfl
        rw [List.getElem?_drop] at h1
        simp at h1
        simp [List.getD, h1]
      have hck : wr.cell? ⟨w5.heap.size, k, none⟩ = some (.string x) := by
        rw [← hx, ← HC.out k hk4]
        exact hbr.cell (by show w5.heap.size < _; omega)
      have hw5 : w5.heap.size < wr.heap.size := by omega
      obtain ⟨ao, cap, rfl, hrow⟩ := row_formsS hown
      have HRW := Lib.hid hrow
      have HO := Lib.hid hown
      clear hrow hown hx
      go_wp2
      go_loopw [6, 7] (fun vt vk wi => ∃ j : Nat, vk = .int .i64 j ∧ j ≤ out.length ∧ vt = .bool (Lib.containsS (out.take j) x) ∧ Below wr.heap.size wr wi) (fun _ vk _ => out.length - natK vk)
      case atStart => exact ⟨0, rfl, by omega, rfl, Below.refl _ _⟩
      case round =>
        obtain ⟨j, rfl, hj, rfl, hbi⟩ := hrel
        have hck2 := (hbi.cell (p := ⟨w5.heap.size, k, none⟩) hw5).trans hck
        by_cases hjl : j < out.length
        · obtain ⟨g, rfl, _, hgw, hcell⟩ := HRW.out (by omega)
          have hcj := (hbi.cell (p := ⟨g, j, none⟩) hgw).trans (hcell j hjl)
          have htk := contains_step hjl x
          obtain ⟨y, hy⟩ : ∃ y, out.getD j .empty = y := ⟨_, rfl⟩
          rw [hy] at hcj htk
          obtain ⟨d, hd⟩ : ∃ d, Lib.containsS (out.take j) x = d := ⟨_, rfl⟩
          rw [hd] at htk ⊢
          have HT := Lib.hid htk
          have hjI : (j : Int) < (out.length : Int) := by omega
          have hkI : (k : Int) < (4 : Int) := by omega
          clear hy htk hd hcell
          cases d with
          | true =>
            go_wp2
            go_quiet (fail)
            go_wp2
            go_roundw
            case rel => exact ⟨j + 1, by simp, by omega, by rw [HT.out]; rfl, below_drewN hbi _⟩
            case measure => simp [natK]; omega
          | false =>
            go_wp2
            go_quiet (fail)
            go_wp2
            go_roundw
            case rel => exact ⟨j + 1, by simp, by omega, by rw [HT.out, beq_toListBytes]; rfl, below_drewN hbi _⟩
            case measure => simp [natK]; omega
        · rw [List.take_of_length_le (by omega)]
          obtain ⟨d, hd⟩ : ∃ d, Lib.containsS out x = d := ⟨_, rfl⟩
          have hde : dedup out (x :: rest) = dedup (if d = true then out else out ++ [x]) rest := by rw [dedup, hd]
          rw [hd]
          clear hd
          have HDE := Lib.hid hde
          clear hde
          cases d with
          | true =>
            go_wp2
            go_roundw
            case rel =>
              refine ⟨k + 1, out, rest, by simp, by simp only [List.length_cons] at hk; omega, by rw [← List.drop_drop, ← HR.out]; rfl, by omega, ?_, ownsRow_kept HO.out hbi, hbr.trans (hbi.mono hbz)⟩
              rw [← HD.out, HDE.out]; rfl
            case measure => simp [natK]; omega
          | false =>
            go_wp2_with (at_builtin; refine wpList_append_own _ rfl _ _ 23 rfl W0.heap.size 9 i0 (.string ByteArray.empty) 1 16 Tryz.underlying23 hi hz0 hz1 hz2 rfl (by decide) _ _ _ rfl ((ownsRow_kept HO.out hbi).alloc _) ⟨wr.heap.size, 0, none⟩ 1 1 [.string x] rfl rfl (cell_one_new _ _ _) (fun x hx => by simp at hx; subst hx; rfl) (by unfold maxLen; omega) (by omega) (by have := hbi.size; simp; omega) ?_; intro v' w3 hown' hgrow3 hnil3)
            go_roundw
            case rel =>
              refine ⟨k + 1, out ++ [x], rest, by simp, by simp only [List.length_cons] at hk; omega, by rw [← List.drop_drop, ← HR.out]; rfl, by simp; omega, ?_, by simpa using hown', ?_⟩
              · rw [← HD.out, HDE.out]; rfl
              · have hb2 := hbr.trans (hbi.mono hbz)
                exact (hb2.alloc hb2.size _).grown hgrow3 (by have := hb2.size; simp; omega) (ownsRow_ge HO.out)
            case measure => simp [natK]; omega
end Go.Proofs
end
