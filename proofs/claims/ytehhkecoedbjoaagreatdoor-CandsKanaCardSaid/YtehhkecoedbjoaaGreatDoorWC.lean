/-
  The reference's Text, Half, Full, Hira, Kata and Wide, walked.
-/
import Derived.Test.YtehhkecoedbjoaaGreatDoorWB
import Derived.Lib.AppendStr
set_option linter.unusedVariables false
set_option linter.unusedSimpArgs false
set_option linter.unusedSectionVars false
section
/-
  The reference: the text of a row of characters.
-/
namespace Go.Proofs
open Go.RowKit Go.Shelf Go.Lib
def textL (l : List Int) : List UInt8 := l.flatMap fun c => if chr c = true then Lib.encodeRune c else []
def textS (l : List Int) : ByteArray := ⟨(textL l).toArray⟩
theorem Tryz.code41 (c : Int) (w : World) (hc : chr c = true) : Calls Tryz.prog 59 #[.int .i32 c] w fun e w' => e = .returned (.string (codeS c)) ∧ Below w.heap.size w w' := by
  have hc' : 0 ≤ c ∧ c ≤ 1114111 ∧ (c < 55296 ∨ 57343 < c) := by unfold chr at hc; simpa using hc
  by_cases h1 : c < 128
  · exact Tryz.code41a c w hc'.1 h1
  · by_cases h2 : c < 2048
    · exact Tryz.code41b 2 c w hc'.1 (by omega) (by omega) (fun k _ _ => by (obtain rfl : k = 1 := by omega); simp only [thrC]; omega) ⟨hc'.2.1, .inr h2⟩ hc'.2.2
    · by_cases h3 : c < 65536
      · exact Tryz.code41b 3 c w hc'.1 (by omega) (by omega) (fun k _ _ => by (rcases (by omega : k = 1 ∨ k = 2) with rfl | rfl) <;> simp only [thrC] <;> omega) ⟨hc'.2.1, .inr h3⟩ hc'.2.2
      · exact Tryz.code41b 4 c w hc'.1 (by omega) (by omega) (fun k _ _ => by (rcases (by omega : k = 1 ∨ k = 2 ∨ k = 3) with rfl | rfl | rfl) <;> simp only [thrC] <;> omega) ⟨hc'.2.1, .inl rfl⟩ hc'.2.2
theorem conv_ownB {P : Program} {t e : TypeId} {W : World} {B n : Nat} {v : Value} {l : List UInt8} (ht : P.underlying t = some (.slice e)) (he : P.underlying e = some (.int .u8)) (hd : P.underlying 9 = some .string)
    (hn : n = l.length) (h : W.ownsRow B e 1 v n (Lib.byteCells l)) : (convert t 9 v).run P W = .ok (.string ⟨l.toArray⟩) W := by
  subst hn
  rcases h.2 with ⟨rfl, h0⟩ | ⟨g, cap, cur, rfl, h2, h3, _⟩
  · have : l = [] := List.length_eq_zero_iff.1 h0
    subst this
    rw [run_convert_bytes_string W t 9 e none 0 0 ht he hd]
    simp [Conv.bytesToString]
    rfl
  · exact run_convert_bytes_back (P := P) W t 9 e ⟨g, 0, none⟩ cap l ht he hd (fun j hj => h.cells rfl j _ (by simp [Lib.byteCells, hj]))
theorem row_forms {W : World} {B e : Nat} {v : Value} {L : List Int} (h : W.ownsRow B e 1 v L.length (L.map (Value.int .i32))) :
    ∃ ao cap, v = .slice ao L.length cap ∧ (0 < L.length → ∃ g, ao = some ⟨g, 0, none⟩ ∧ B ≤ g ∧ g < W.heap.size ∧ ∀ j, j < L.length → W.cell? ⟨g, j, none⟩ = some (.int .i32 (L.getD j 0))) := by
  rcases h.2 with ⟨rfl, h0⟩ | ⟨g, cap, cur, rfl, h2, h3, _⟩
  · exact ⟨none, 0, by rw [h0], fun h => by omega⟩
  · refine ⟨_, cap, rfl, fun h0 => ⟨g, rfl, h2, (Array.getElem?_eq_some_iff.1 h3).1, fun j hj => ?_⟩⟩
    rw [h.cellAt j (by omega), List.getElem?_map, List.getElem?_eq_getElem hj]
    simp [List.getD, List.getElem?_eq_getElem hj]
theorem codeS_size (c : Int) : (codeS c).size = (Lib.encodeRune c).length := by simp [codeS, ByteArray.size]
theorem encodeRune_le (c : Int) : (Lib.encodeRune c).length ≤ 4 := by
  have := Lib.runeCells_le c
  rw [Lib.runeCells_length] at this
  exact this.2
theorem codeS_cells (c : Int) : strCells (codeS c) = Lib.byteCells (Lib.encodeRune c) := by simp [codeS, strCells, Lib.byteCells]
theorem textL_step {L : List Int} {k : Nat} (h : k < L.length) : textL (L.drop k) = (if chr (L.getD k 0) = true then Lib.encodeRune (L.getD k 0) else []) ++ textL (L.drop (k + 1)) := by
  unfold textL
  rw [List.drop_eq_getElem_cons h, List.flatMap_cons]
  simp only [List.getD, List.getElem?_eq_getElem h, Option.getD_some]
set_option maxHeartbeats 4000000 in
set_option maxRecDepth 1000000 in
theorem Tryz.text30 (B : Nat) (L : List Int) (v : Value) (w : World) (hown : w.ownsRow B 21 1 v L.length (L.map (Value.int .i32))) (hL : L.length ≤ 1000000000000) :
    Calls Tryz.prog 37 #[v] w fun e w' => e = .returned (.string (textS L)) ∧ Below w.heap.size w w' := by
  obtain ⟨i0, hi, hz0, hz1, hz2⟩ := info_parts Tryz.info5
  obtain ⟨q, hq⟩ : ∃ q, textL L = q := ⟨_, rfl⟩
  have hT : textS L = ⟨q.toArray⟩ := by unfold textS; rw [hq]
  rw [hT]
  obtain ⟨ao, cap, rfl, hrow⟩ := row_forms hown
  clear hT hown
  have HQ := Lib.hid hq
  have HR := Lib.hid hrow
  clear hq hrow
  go_enter Tryz.func37, Tryz.ntmps37
  go_wp2
  go_loopw [3, 4] (fun vb vi wr => ∃ (k : Nat) (out : List UInt8), vi = .int .i64 k ∧ k ≤ L.length ∧ out ++ textL (L.drop k) = q ∧ out.length ≤ 4 * k ∧ wr.ownsRow w.heap.size 5 1 vb out.length (Lib.byteCells out) ∧ Below w.heap.size w wr)
    (fun _ vi _ => L.length - natK vi)
  case atStart => exact ⟨0, [], rfl, by omega, HQ.out, by simp, World.ownsRow_nil _ _ _ _, Below.refl _ _⟩
  case round =>
    obtain ⟨k, out, rfl, hk, hout, hol, hown, hbr⟩ := hrel
    have HO := Lib.hid hout
    have HW := Lib.hid hown
    have hbz := hbr.size
    clear hout hown
    by_cases hlt : k < L.length
    · obtain ⟨g, rfl, hgB, hgw, hcell⟩ := HR.out (by omega)
      have hck := (hbr.cell (p := ⟨g, k, none⟩) hgw).trans (hcell k hlt)
      have hst := textL_step hlt
      obtain ⟨c, hc⟩ : ∃ c, L.getD k 0 = c := ⟨_, rfl⟩
      rw [hc] at hck hst
      clear hcell hc
      have HS := Lib.hid hst
      clear hst
      cases hcc : chr c with
      | true =>
        have h41 := fun W => Tryz.code41 c W hcc
        have h40 := Tryz.character40 c
        rw [hcc] at h40
        have hsz := codeS_size c
        have hle := encodeRune_le c
        have hcs := codeS_cells c
        have HCC := Lib.hid hcc
        have HCS := Lib.hid hcs
        have HSZ := Lib.hid hsz
        clear hcc hcs
        go_wp2_with (first
          | (go_at_call 58; refine (h40 _).mono ?_; rintro e w' ⟨rfl, rfl⟩)
          | (go_at_call 59; refine (h41 _).mono ?_; rintro e w1 ⟨rfl, hb1⟩)
          | (at_builtin; refine wpList_append_own_string _ rfl _ _ 57 9 rfl w.heap.size 5 i0 Tryz.underlying57 Tryz.underlying9 hi hz0 hz1 hz2 _ _ _ rfl (ownsRow_kept HW.out hb1) (codeS c) rfl (by rw [HSZ.out]; unfold maxLen; omega) (by rw [HSZ.out]; omega) (by have := hb1.size; omega) ?_; intro v' w3 hown' hgrow3 hnil3))
        go_roundw
        case rel =>
          refine ⟨k + 1, out ++ Lib.encodeRune c, by simp, by omega, ?_, by simp; omega, ?_, ?_⟩
          · rw [← HO.out, HS.out, if_pos HCC.out, List.append_assoc]
          · rw [HSZ.out, HCS.out] at hown'
            rw [Lib.byteCells_append, List.length_append]
            exact hown'
          · have hb2 : Below w.heap.size w w1 := hbr.trans (hb1.mono hbz)
            exact hb2.grown hgrow3 hb2.size (ownsRow_ge HW.out)
        case measure => simp [natK]; omega
      | false =>
        have h40 := Tryz.character40 c
        rw [hcc] at h40
        have HCC := Lib.hid hcc
        clear hcc
        go_wp2_with (go_at_call 58; refine (h40 _).mono ?_; rintro e w' ⟨rfl, rfl⟩)
        go_roundw
        case rel =>
          refine ⟨k + 1, out, by simp, by omega, ?_, by omega, HW.out, hbr⟩
          rw [← HO.out, HS.out, if_neg (by rw [HCC.out]; simp), List.nil_append]
        case measure => simp [natK]; omega
    · have hconv := conv_ownB (P := Tryz.prog) Tryz.underlying57 Tryz.underlying5 Tryz.underlying9 rfl HW.out
      go_wp2
      go_ret
      have h1 := HO.out
      rw [List.drop_eq_nil_of_le (by omega), show textL [] = [] by rfl, List.append_nil] at h1
      exact ⟨ret_strK (by rw [h1]), hbr⟩
end Go.Proofs
end

section
/-
  The reference: the half-width characters of a character.
-/
namespace Go.Proofs
open Go.RowKit Go.Shelf Go.Lib
def halfA : Nat → List Int → Int → Option (List Int)
  | _, [], _ => none
  | i, t :: l, c => if t = c then some [65377 + i] else halfA (i + 1) l c
def halfB : Nat → List Int → Int → Option (List Int)
  | _, [], _ => none
  | i, t :: l, c => if markedF t 65438 = c then some [65377 + i, 65438] else if markedF t 65439 = c then some [65377 + i, 65439] else halfB (i + 1) l c
def halfR (c : Int) : List Int := (halfA 0 tableL c).getD ((halfB 0 tableL c).getD [])
theorem table_range : ∀ t ∈ tableL, 0 ≤ t ∧ t ≤ 20000 := by decide +kernel
theorem table_len : tableL.length = 61 := by kernel_rfl
theorem getD_mem {l : List Int} {k : Nat} (h : k < l.length) : l.getD k 0 ∈ l := by
  simp [List.getD, List.getElem?_eq_getElem h]
theorem halfA_step {k : Nat} (h : k < tableL.length) (c : Int) : halfA k (tableL.drop k) c = if tableL.getD k 0 = c then some [65377 + (k : Int)] else halfA (k + 1) (tableL.drop (k + 1)) c := by
  rw [List.drop_eq_getElem_cons h, halfA]
  simp only [List.getD, List.getElem?_eq_getElem h, Option.getD_some]
theorem halfB_step {k : Nat} (h : k < tableL.length) (c : Int) : halfB k (tableL.drop k) c = if markedF (tableL.getD k 0) 65438 = c then some [65377 + (k : Int), 65438] else if markedF (tableL.getD k 0) 65439 = c then some [65377 + (k : Int), 65439] else halfB (k + 1) (tableL.drop (k + 1)) c := by
  rw [List.drop_eq_getElem_cons h, halfB]
  simp only [List.getD, List.getElem?_eq_getElem h, Option.getD_some]
set_option maxHeartbeats 4000000 in
set_option maxRecDepth 1000000 in
theorem Tryz.half34 (c : Int) (w : World) : Calls Tryz.prog 41 #[.int .i32 c] w fun e w' => ∃ v, e = .returned v ∧ w'.ownsRow w.heap.size 21 1 v (halfR c).length ((halfR c).map (Value.int .i32)) ∧ Below w.heap.size w w' := by
  obtain ⟨R, hR⟩ : ∃ R, halfR c = R := ⟨_, rfl⟩
  rw [hR]
  have HR := Lib.hid hR
  clear hR
  have h31 := Tryz.table31
  have HLN := Lib.hid table_len
  go_enter Tryz.func41, Tryz.ntmps41
  go_wp2_with (go_at_call 38; refine (h31 _).mono ?_; rintro e w1 ⟨v, rfl, hown, hb1⟩)
  obtain ⟨g, cap, rfl, hgB, hgn, hgw, hcell⟩ := row_read hown (by decide)
  have HC := Lib.hid hcell
  clear hown hcell h31
  have hL : tableL.length ≤ 100 := by rw [HLN.out]; omega
  obtain ⟨n, hn⟩ : ∃ n, tableL.length = n := ⟨_, rfl⟩
  rw [hn] at hL hgn ⊢
  have HN := Lib.hid hn
  clear hn
  go_loopw [4] (fun vi wr => ∃ k : Nat, vi = .int .i64 k ∧ k ≤ n ∧ (halfA k (tableL.drop k) c).getD ((halfB 0 tableL c).getD []) = R ∧ w1 = wr) (fun vi _ => n - natK vi)
  case atStart => exact ⟨0, rfl, by omega, HR.out, rfl⟩
  case round =>
    obtain ⟨k, rfl, hk, hA, rfl⟩ := hrel
    have HA := Lib.hid hA
    clear hA HR
    by_cases hlt : k < n
    · have hck := HC.out k (by rw [HN.out]; exact hlt)
      have hst := halfA_step (k := k) (by rw [HN.out]; exact hlt) c
      have hrg := table_range _ (getD_mem (l := tableL) (k := k) (by rw [HN.out]; exact hlt))
      obtain ⟨t, ht⟩ : ∃ t, tableL.getD k 0 = t := ⟨_, rfl⟩
      rw [ht] at hck hst hrg
      clear ht
      by_cases htc : t = c
      · subst htc
        rw [if_pos rfl] at hst
        have HS := Lib.hid hst
        clear hst
        go_wp2
        go_ret
        have h1 := HA.out
        rw [HS.out, Option.getD_some] at h1
        refine ⟨_, rfl, ?_, hb1.alloc hb1.size _⟩
        rw [← h1]
        exact own_lit_at _ _ _ _ 1 _ rfl (by have := hb1.size; omega) rfl (by omega)
      · have htc' : (t == c) = false := by simpa using htc
        rw [if_neg htc] at hst
        have HS := Lib.hid hst
        clear hst htc
        go_wp2
        go_roundw
        case rel => exact ⟨k + 1, by simp, by omega, by rw [← HA.out, HS.out], by trivial⟩
        case measure => simp [natK]; omega
    · have hA := HA.out
      rw [show tableL.drop k = [] from List.drop_eq_nil_of_le (by rw [HN.out]; omega), halfA, Option.getD_none] at hA
      clear HA
      have HA := Lib.hid hA
      clear hA
      go_wp2
      go_loopw [5] (fun vi wr => ∃ k : Nat, vi = .int .i64 k ∧ k ≤ n ∧ (halfB k (tableL.drop k) c).getD [] = R ∧ Below w1.heap.size w1 wr) (fun vi _ => n - natK vi)
      case atStart => exact ⟨0, rfl, by omega, by simpa using HA.out, Below.refl _ _⟩
      case round =>
        obtain ⟨k, rfl, hk, hB, hbr⟩ := hrel
        have hbz := hbr.size
        have HB := Lib.hid hB
        clear hB HA hlt
        by_cases hlt : k < n
        · have hck := (hbr.cell (p := ⟨g, k, none⟩) hgw).trans (HC.out k (by rw [HN.out]; exact hlt))
          have hst := halfB_step (k := k) (by rw [HN.out]; exact hlt) c
          have hrg := table_range _ (getD_mem (l := tableL) (k := k) (by rw [HN.out]; exact hlt))
          obtain ⟨t, ht⟩ : ∃ t, tableL.getD k 0 = t := ⟨_, rfl⟩
          rw [ht] at hck hst hrg
          clear ht
          have h32 := fun m W => Tryz.marked32 t m W (by omega) (by omega)
          obtain ⟨mf, hmf⟩ : ∃ f, markedF t = f := ⟨_, rfl⟩
          rw [hmf] at hst h32
          clear hmf
          have hgx : g < wr.heap.size := Nat.lt_of_lt_of_le hgw hbz
          by_cases h1 : mf 65438 = c
          · subst h1
            rw [if_pos rfl] at hst
            have HS := Lib.hid hst
            clear hst
            go_wp2_with (go_at_call 39; refine (h32 _ _).mono ?_; rintro e w3 ⟨rfl, hb3⟩; have hck := (hb3.cell (p := ⟨g, k, none⟩) hgx).trans hck; have hgx := Nat.lt_of_lt_of_le hgx hb3.size; have hbr := hbr.trans (hb3.mono hbz); have hbz := hbr.size)
            go_ret
            have h1 := HB.out
            rw [HS.out, Option.getD_some] at h1
            refine ⟨_, rfl, ?_, (hb1.trans (hbr.mono hb1.size)).alloc (by have := hb1.size; omega) _⟩
            rw [← h1]
            exact own_lit_at _ _ _ _ 2 _ rfl (by have := hb1.size; omega) rfl (by omega)
          · have h1' : (mf 65438 == c) = false := by simpa using h1
            rw [if_neg h1] at hst
            clear h1
            by_cases h2 : mf 65439 = c
            · subst h2
              rw [if_pos rfl] at hst
              have HS := Lib.hid hst
              clear hst
              go_wp2_with (go_at_call 39; refine (h32 _ _).mono ?_; rintro e w3 ⟨rfl, hb3⟩; have hck := (hb3.cell (p := ⟨g, k, none⟩) hgx).trans hck; have hgx := Nat.lt_of_lt_of_le hgx hb3.size; have hbr := hbr.trans (hb3.mono hbz); have hbz := hbr.size)
              go_ret
              have h1 := HB.out
              rw [HS.out, Option.getD_some] at h1
              refine ⟨_, rfl, ?_, (hb1.trans (hbr.mono hb1.size)).alloc (by have := hb1.size; omega) _⟩
              rw [← h1]
              exact own_lit_at _ _ _ _ 2 _ rfl (by have := hb1.size; omega) rfl (by omega)
            · have h2' : (mf 65439 == c) = false := by simpa using h2
              rw [if_neg h2] at hst
              have HS := Lib.hid hst
              clear hst h2
              go_wp2_with (go_at_call 39; refine (h32 _ _).mono ?_; rintro e w3 ⟨rfl, hb3⟩; have hck := (hb3.cell (p := ⟨g, k, none⟩) hgx).trans hck; have hgx := Nat.lt_of_lt_of_le hgx hb3.size; have hbr := hbr.trans (hb3.mono hbz); have hbz := hbr.size)
              go_roundw
              case rel => exact ⟨k + 1, by simp, by omega, by rw [← HB.out, HS.out], hbr⟩
              case measure => simp [natK]; omega
        · have hB := HB.out
          rw [show tableL.drop k = [] from List.drop_eq_nil_of_le (by rw [HN.out]; omega), halfB, Option.getD_none] at hB
          subst hB
          go_wp2
          go_ret
          exact ⟨_, rfl, World.ownsRow_nil _ _ _ _, hb1.trans (hbr.mono hb1.size)⟩
end Go.Proofs
end

section
/-
  The reference: Hira, Kata, Wide: a row of characters, turned in place.
-/
namespace Go.Proofs
open Go.RowKit Go.Shelf Go.Lib
/-- What the reference makes of a text, character by character. -/
def refMap (f : Int → Int) (s : ByteArray) : ByteArray := match refRunes s with | none => s | some l => textS (l.map f)
def hiraR (c : Int) : Int := if btw c 12449 12534 = true then c - 96 else c
def wideR (c : Int) : Int := if c = 32 then 12288 else if btw c 33 126 = true then c + 65248 else c
theorem map_set {f : Int → Int} {L : List Int} {k : Nat} (h : k < L.length) {c : Int} (hc : L.getD k 0 = c) :
    (((L.take k).map f ++ L.drop k).map (Value.int .i32)).set k (.int .i32 (f c)) = ((L.take (k + 1)).map f ++ L.drop (k + 1)).map (Value.int .i32) := by
  have hx : L[k] = c := by rw [← hc]; simp [List.getD, List.getElem?_eq_getElem h]
  apply List.ext_getElem?
  intro j
  simp only [List.map_append, List.map_map]
  rw [List.getElem?_set]
  by_cases hj : k = j
  · subst hj
    have hl : k < (List.map (Value.int IntKind.i32 ∘ f) (List.take k L) ++ List.map (Value.int IntKind.i32) (List.drop k L)).length := by simp; omega
    rw [if_pos rfl, if_pos hl]
    rw [List.getElem?_append_left (by simp; omega)]
    simp [List.getElem?_take, List.getElem?_eq_getElem h, hx]
  · rw [if_neg hj]
    by_cases hlt : j < k
    · rw [List.getElem?_append_left (by simp; omega), List.getElem?_append_left (by simp; omega)]
      simp [List.getElem?_take, hlt, show j < k + 1 by omega]
    · rw [List.getElem?_append_right (by simp; omega), List.getElem?_append_right (by simp; omega)]
      simp only [List.length_map, List.length_take, List.getElem?_map, List.getElem?_drop]
      congr 2
      omega
theorem map_same {f : Int → Int} {L : List Int} {k : Nat} (h : k < L.length) {c : Int} (hc : L.getD k 0 = c) (hf : f c = c) :
    (L.take k).map f ++ L.drop k = (L.take (k + 1)).map f ++ L.drop (k + 1) := by
  have hx : L[k] = c := by rw [← hc]; simp [List.getD, List.getElem?_eq_getElem h]
  rw [List.drop_eq_getElem_cons h, List.take_add_one, List.getElem?_eq_getElem h]
  simp [hx, hf]
theorem map_at {f : Int → Int} {L : List Int} {k : Nat} (h : k < L.length) : ((L.take k).map f ++ L.drop k)[k]? = some (L.getD k 0) := by
  rw [List.getElem?_append_right (by simp; omega)]
  simp [List.getD, List.getElem?_eq_getElem h, Nat.min_eq_left (Nat.le_of_lt h)]
theorem refRunes_len {s : ByteArray} {l : List Int} (h : refRunes s = some l) : l.length ≤ s.size := by
  have : ∀ (f a : Nat) (l : List Int), refGo s f a = some l → l.length ≤ f := by
    intro f
    induction f with
    | zero => intro a l h; simp [refGo] at h; subst h; simp
    | succ f ih =>
      intro a l h
      unfold refGo at h
      split at h
      · split at h
        · simp at h
        · obtain ⟨r, hr, rfl⟩ := Option.map_eq_some_iff.1 h
          have := ih _ _ hr
          simp; omega
      · simp at h; subst h; simp
  exact this _ _ _ h
theorem nextR_chr (s : ByteArray) (a : Nat) (h : ¬ (nextR s a).2 = 0) : chr (nextR s a).1 = true := by
  unfold nextR at h ⊢
  generalize lenB (s.get! a).toNat = p at h ⊢
  dsimp only at h ⊢
  by_cases h1 : p.1 = 0 ∨ p.1 > (s.size : Int) - a
  · rw [if_pos h1] at h; exact absurd rfl h
  · rw [if_neg h1] at h ⊢
    cases hg : contGo s a (p.1.toNat - 1) 1 p.2 with
    | none => rw [hg] at h; exact absurd rfl h
    | some c =>
      rw [hg] at h
      dsimp only at h ⊢
      by_cases h2 : c < leastN p.1.toNat ∨ chr c = false
      · rw [if_pos h2] at h; exact absurd rfl h
      · rw [if_neg h2]
        simp only [not_or] at h2
        simpa using h2.2
theorem refRunes_range {s : ByteArray} {l : List Int} (h : refRunes s = some l) : ∀ c ∈ l, chr c = true := by
  have : ∀ (f a : Nat) (l : List Int), refGo s f a = some l → ∀ c ∈ l, chr c = true := by
    intro f
    induction f with
    | zero => intro a l h; simp [refGo] at h; subst h; simp
    | succ f ih =>
      intro a l h
      unfold refGo at h
      split at h
      · split at h
        · simp at h
        · rename_i hne
          obtain ⟨r, hr, rfl⟩ := Option.map_eq_some_iff.1 h
          intro c hc
          rcases List.mem_cons.1 hc with hc | hc
          · rw [hc]
            exact nextR_chr s a hne
          · exact ih _ _ hr c hc
      · simp at h; subst h; simp
  exact this _ _ _ h

set_option maxHeartbeats 8000000 in
set_option maxRecDepth 1000000 in
theorem Tryz.rhira12 (s : ByteArray) (w : World) (hs : s.size ≤ 100000000000) :
    Calls Tryz.prog 14 #[.string s] w fun e w' => e = .returned (.string (refMap hiraR s)) ∧ Below w.heap.size w w' := by
  have h28 := Tryz.runes28 s w (by omega)
  obtain ⟨q, hq⟩ : ∃ q, refMap hiraR s = q := ⟨_, rfl⟩
  rw [hq]
  have HQ := Lib.hid hq
  clear hq
  cases hr : refRunes s with
  | none =>
    rw [hr] at h28
    have HR := Lib.hid hr
    clear hr
    unfold RunesEnd at h28
    go_enter Tryz.func14, Tryz.ntmps14
    go_wp2_with (go_at_call 35; refine h28.mono ?_; rintro e w1 ⟨rfl, hb1⟩)
    go_ret
    refine ⟨ret_strK ?_, hb1⟩
    rw [← HQ.out, refMap, HR.out]
  | some L =>
    rw [hr] at h28
    have hll := refRunes_len hr
    have hrg := refRunes_range hr
    have hq2 : q = textS (L.map hiraR) := by rw [← HQ.out, refMap, hr]
    have HQ2 := Lib.hid hq2
    have HRG := Lib.hid hrg
    clear HQ hr hq2 hrg
    unfold RunesEnd at h28
    go_enter Tryz.func14, Tryz.ntmps14
    go_wp2_with (go_at_call 35; refine h28.mono ?_; rintro e w1 ⟨⟨v, rfl, hown0⟩, hb1⟩)
    clear h28
    have hb1z := hb1.size
    obtain ⟨ao, cap, rfl, hrow⟩ := row_forms hown0
    have HO0 := Lib.hid hown0
    have HRW := Lib.hid hrow
    clear hown0 hrow
    go_loopw [5] (fun vi wr => ∃ k : Nat, vi = .int .i64 k ∧ k ≤ L.length ∧ wr.ownsRow w.heap.size 21 1 (.slice ao L.length cap) L.length (((L.take k).map hiraR ++ L.drop k).map (Value.int .i32)) ∧ Below w.heap.size w wr) (fun vi _ => L.length - natK vi)
    case atStart => exact ⟨0, rfl, by omega, by simpa using HO0.out, hb1⟩
    case round =>
      obtain ⟨k, rfl, hk, hown, hbr⟩ := hrel
      have hbz := hbr.size
      by_cases hlt : k < L.length
      · obtain ⟨g, rfl, hgB, hgw, _⟩ := HRW.out (by omega)
        have hck : wr.cell? ⟨g, k, none⟩ = some (.int .i32 (L.getD k 0)) := by
          rw [hown.cellAt k (by omega), List.getElem?_map, map_at hlt]; rfl
        have hfz := hown.frozenAt k
        obtain ⟨c, hc⟩ : ∃ c, L.getD k 0 = c := ⟨_, rfl⟩
        have hcr : 0 ≤ c ∧ c ≤ 1114111 := by
          have := HRG.out c (by rw [← hc]; exact getD_mem hlt)
          unfold chr at this
          simp at this
          omega
        rw [hc] at hck
        have HO := Lib.hid hown
        have HCC := Lib.hid hc
        clear hown hc
        have h29 := Tryz.between29 c
        obtain ⟨b, hb⟩ : ∃ b, btw c 12449 12534 = b := ⟨_, rfl⟩
        have hbc : b = true → 12449 ≤ c := by
          rintro rfl
          unfold btw at hb
          simp at hb
          omega
        have HB := Lib.hid hb
        have h29' := h29 12449 12534
        rw [hb] at h29'
        clear h29 hb
        cases b with
        | true =>
          have hcl := hbc rfl
          clear hbc
          go_wp2_with (go_at_call 36; refine (h29' _).mono ?_; rintro e w' ⟨rfl, rfl⟩)
          have hst := HO.out.stored k (.int .i32 (c - 96))
          go_roundw
          case rel =>
            refine ⟨k + 1, by simp, by omega, ?_, hbr.setCell (p := ⟨g, k, none⟩) hgB _⟩
            have h1 := hst.1
            have hms := map_set (f := hiraR) hlt HCC.out
            rw [← show (c - 96) = hiraR c by (rw [hiraR, if_pos HB.out])] at hms
            rw [hms] at h1
            exact h1
          case measure => simp [natK]; omega
        | false =>
          clear hbc
          go_wp2_with (go_at_call 36; refine (h29' _).mono ?_; rintro e w' ⟨rfl, rfl⟩)
          go_roundw
          case rel =>
            refine ⟨k + 1, by simp, by omega, ?_, hbr⟩
            rw [← map_same hlt HCC.out (show hiraR c = c by (rw [hiraR, if_neg (by rw [HB.out]; simp)]))]
            exact HO.out
          case measure => simp [natK]; omega
      · have hown' : wr.ownsRow w.heap.size 21 1 (.slice ao L.length cap) (L.map hiraR).length ((L.map hiraR).map (Value.int .i32)) := by
          rw [List.take_of_length_le (by omega), List.drop_eq_nil_of_le (by omega), List.append_nil] at hown
          rw [List.length_map]
          exact hown
        have h30 := Tryz.text30 w.heap.size (L.map hiraR) _ wr hown' (by rw [List.length_map]; omega)
        clear hown hown'
        go_wp2_with (go_at_call 37; refine h30.mono ?_; rintro e w2 ⟨rfl, hb2⟩)
        go_ret
        exact ⟨ret_strK HQ2.out.symm, hbr.trans (hb2.mono hbz)⟩

set_option maxHeartbeats 8000000 in
set_option maxRecDepth 1000000 in
theorem Tryz.rkata14 (s : ByteArray) (w : World) (hs : s.size ≤ 100000000000) :
    Calls Tryz.prog 16 #[.string s] w fun e w' => e = .returned (.string (refMap kataF s)) ∧ Below w.heap.size w w' := by
  have h28 := Tryz.runes28 s w (by omega)
  obtain ⟨q, hq⟩ : ∃ q, refMap kataF s = q := ⟨_, rfl⟩
  rw [hq]
  have HQ := Lib.hid hq
  clear hq
  cases hr : refRunes s with
  | none =>
    rw [hr] at h28
    have HR := Lib.hid hr
    clear hr
    unfold RunesEnd at h28
    go_enter Tryz.func16, Tryz.ntmps16
    go_wp2_with (go_at_call 35; refine h28.mono ?_; rintro e w1 ⟨rfl, hb1⟩)
    go_ret
    refine ⟨ret_strK ?_, hb1⟩
    rw [← HQ.out, refMap, HR.out]
  | some L =>
    rw [hr] at h28
    have hll := refRunes_len hr
    have hrg := refRunes_range hr
    have hq2 : q = textS (L.map kataF) := by rw [← HQ.out, refMap, hr]
    have HQ2 := Lib.hid hq2
    have HRG := Lib.hid hrg
    clear HQ hr hq2 hrg
    unfold RunesEnd at h28
    go_enter Tryz.func16, Tryz.ntmps16
    go_wp2_with (go_at_call 35; refine h28.mono ?_; rintro e w1 ⟨⟨v, rfl, hown0⟩, hb1⟩)
    clear h28
    have hb1z := hb1.size
    obtain ⟨ao, cap, rfl, hrow⟩ := row_forms hown0
    have HO0 := Lib.hid hown0
    have HRW := Lib.hid hrow
    clear hown0 hrow
    go_loopw [5] (fun vi wr => ∃ k : Nat, vi = .int .i64 k ∧ k ≤ L.length ∧ wr.ownsRow w.heap.size 21 1 (.slice ao L.length cap) L.length (((L.take k).map kataF ++ L.drop k).map (Value.int .i32)) ∧ Below w.heap.size w wr) (fun vi _ => L.length - natK vi)
    case atStart => exact ⟨0, rfl, by omega, by simpa using HO0.out, hb1⟩
    case round =>
      obtain ⟨k, rfl, hk, hown, hbr⟩ := hrel
      have hbz := hbr.size
      by_cases hlt : k < L.length
      · obtain ⟨g, rfl, hgB, hgw, _⟩ := HRW.out (by omega)
        have hck : wr.cell? ⟨g, k, none⟩ = some (.int .i32 (L.getD k 0)) := by
          rw [hown.cellAt k (by omega), List.getElem?_map, map_at hlt]; rfl
        have hfz := hown.frozenAt k
        obtain ⟨c, hc⟩ : ∃ c, L.getD k 0 = c := ⟨_, rfl⟩
        have hcr : 0 ≤ c ∧ c ≤ 1114111 := by
          have := HRG.out c (by rw [← hc]; exact getD_mem hlt)
          unfold chr at this
          simp at this
          omega
        rw [hc] at hck
        have HO := Lib.hid hown
        have HCC := Lib.hid hc
        clear hown hc
        have h33 := fun W => Tryz.kata33 c W (by omega) (by omega)
        have hkr : -2147483648 ≤ kataF c ∧ kataF c ≤ 2147483647 := by
          unfold kataF
          split
          · rename_i h1; have := class_1 h1; omega
          · omega
        obtain ⟨d, hd⟩ : ∃ d, kataF c = d := ⟨_, rfl⟩
        rw [hd] at h33 hkr
        have HD := Lib.hid hd
        clear hd
        go_wp2_with (go_at_call 40; refine (h33 _).mono ?_; rintro e w' ⟨rfl, rfl⟩)
        have hst := HO.out.stored k (.int .i32 d)
        go_roundw
        case rel =>
          refine ⟨k + 1, by simp, by omega, ?_, hbr.setCell (p := ⟨g, k, none⟩) hgB _⟩
          have h1 := hst.1
          have hms := map_set (f := kataF) hlt HCC.out
          rw [← show d = kataF c by (exact HD.out.symm)] at hms
          rw [hms] at h1
          exact h1
        case measure => simp [natK]; omega
      · have hown' : wr.ownsRow w.heap.size 21 1 (.slice ao L.length cap) (L.map kataF).length ((L.map kataF).map (Value.int .i32)) := by
          rw [List.take_of_length_le (by omega), List.drop_eq_nil_of_le (by omega), List.append_nil] at hown
          rw [List.length_map]
          exact hown
        have h30 := Tryz.text30 w.heap.size (L.map kataF) _ wr hown' (by rw [List.length_map]; omega)
        clear hown hown'
        go_wp2_with (go_at_call 37; refine h30.mono ?_; rintro e w2 ⟨rfl, hb2⟩)
        go_ret
        exact ⟨ret_strK HQ2.out.symm, hbr.trans (hb2.mono hbz)⟩

set_option maxHeartbeats 8000000 in
set_option maxRecDepth 1000000 in
theorem Tryz.rwide16 (s : ByteArray) (w : World) (hs : s.size ≤ 100000000000) :
    Calls Tryz.prog 18 #[.string s] w fun e w' => e = .returned (.string (refMap wideR s)) ∧ Below w.heap.size w w' := by
  have h28 := Tryz.runes28 s w (by omega)
  obtain ⟨q, hq⟩ : ∃ q, refMap wideR s = q := ⟨_, rfl⟩
  rw [hq]
  have HQ := Lib.hid hq
  clear hq
  cases hr : refRunes s with
  | none =>
    rw [hr] at h28
    have HR := Lib.hid hr
    clear hr
    unfold RunesEnd at h28
    go_enter Tryz.func18, Tryz.ntmps18
    go_wp2_with (go_at_call 35; refine h28.mono ?_; rintro e w1 ⟨rfl, hb1⟩)
    go_ret
    refine ⟨ret_strK ?_, hb1⟩
    rw [← HQ.out, refMap, HR.out]
  | some L =>
    rw [hr] at h28
    have hll := refRunes_len hr
    have hrg := refRunes_range hr
    have hq2 : q = textS (L.map wideR) := by rw [← HQ.out, refMap, hr]
    have HQ2 := Lib.hid hq2
    have HRG := Lib.hid hrg
    clear HQ hr hq2 hrg
    unfold RunesEnd at h28
    go_enter Tryz.func18, Tryz.ntmps18
    go_wp2_with (go_at_call 35; refine h28.mono ?_; rintro e w1 ⟨⟨v, rfl, hown0⟩, hb1⟩)
    clear h28
    have hb1z := hb1.size
    obtain ⟨ao, cap, rfl, hrow⟩ := row_forms hown0
    have HO0 := Lib.hid hown0
    have HRW := Lib.hid hrow
    clear hown0 hrow
    go_loopw [5] (fun vi wr => ∃ k : Nat, vi = .int .i64 k ∧ k ≤ L.length ∧ wr.ownsRow w.heap.size 21 1 (.slice ao L.length cap) L.length (((L.take k).map wideR ++ L.drop k).map (Value.int .i32)) ∧ Below w.heap.size w wr) (fun vi _ => L.length - natK vi)
    case atStart => exact ⟨0, rfl, by omega, by simpa using HO0.out, hb1⟩
    case round =>
      obtain ⟨k, rfl, hk, hown, hbr⟩ := hrel
      have hbz := hbr.size
      by_cases hlt : k < L.length
      · obtain ⟨g, rfl, hgB, hgw, _⟩ := HRW.out (by omega)
        have hck : wr.cell? ⟨g, k, none⟩ = some (.int .i32 (L.getD k 0)) := by
          rw [hown.cellAt k (by omega), List.getElem?_map, map_at hlt]; rfl
        have hfz := hown.frozenAt k
        obtain ⟨c, hc⟩ : ∃ c, L.getD k 0 = c := ⟨_, rfl⟩
        have hcr : 0 ≤ c ∧ c ≤ 1114111 := by
          have := HRG.out c (by rw [← hc]; exact getD_mem hlt)
          unfold chr at this
          simp at this
          omega
        rw [hc] at hck
        have HO := Lib.hid hown
        have HCC := Lib.hid hc
        clear hown hc
        by_cases h32 : c = 32
        · have h32' : (c == 32) = true := by simpa using h32
          have H32 := Lib.hid h32
          clear h32
          go_wp2
          have hst := HO.out.stored k (.int .i32 12288)
          go_roundw
          case rel =>
            refine ⟨k + 1, by simp, by omega, ?_, hbr.setCell (p := ⟨g, k, none⟩) hgB _⟩
            have h1 := hst.1
            have hms := map_set (f := wideR) hlt HCC.out
            rw [← show 12288 = wideR c by (rw [wideR, if_pos H32.out])] at hms
            rw [hms] at h1
            exact h1
          case measure => simp [natK]; omega
        · have h32' : (c == 32) = false := by simpa using h32
          have H32 := Lib.hid h32
          clear h32
          have h29 := Tryz.between29 c
          obtain ⟨b, hb⟩ : ∃ b, btw c 33 126 = b := ⟨_, rfl⟩
          have HB := Lib.hid hb
          have h29' := h29 33 126
          rw [hb] at h29'
          clear h29 hb
          cases b with
          | true =>
            have hcl : c ≤ 126 := by
              have := HB.out
              unfold btw at this
              simp at this
              omega
            go_wp2_with (go_at_call 36; refine (h29' _).mono ?_; rintro e w' ⟨rfl, rfl⟩)
            have hst := HO.out.stored k (.int .i32 (c + 65248))
            go_roundw
            case rel =>
              refine ⟨k + 1, by simp, by omega, ?_, hbr.setCell (p := ⟨g, k, none⟩) hgB _⟩
              have h1 := hst.1
              have hms := map_set (f := wideR) hlt HCC.out
              rw [← show (c + 65248) = wideR c by (rw [wideR, if_neg H32.out, if_pos HB.out])] at hms
              rw [hms] at h1
              exact h1
            case measure => simp [natK]; omega
          | false =>
            go_wp2_with (go_at_call 36; refine (h29' _).mono ?_; rintro e w' ⟨rfl, rfl⟩)
            go_roundw
            case rel =>
              refine ⟨k + 1, by simp, by omega, ?_, hbr⟩
              rw [← map_same hlt HCC.out (show wideR c = c by (rw [wideR, if_neg H32.out, if_neg (by rw [HB.out]; simp)]))]
              exact HO.out
            case measure => simp [natK]; omega
      · have hown' : wr.ownsRow w.heap.size 21 1 (.slice ao L.length cap) (L.map wideR).length ((L.map wideR).map (Value.int .i32)) := by
          rw [List.take_of_length_le (by omega), List.drop_eq_nil_of_le (by omega), List.append_nil] at hown
          rw [List.length_map]
          exact hown
        have h30 := Tryz.text30 w.heap.size (L.map wideR) _ wr hown' (by rw [List.length_map]; omega)
        clear hown hown'
        go_wp2_with (go_at_call 37; refine h30.mono ?_; rintro e w2 ⟨rfl, hb2⟩)
        go_ret
        exact ⟨ret_strK HQ2.out.symm, hbr.trans (hb2.mono hbz)⟩
end Go.Proofs
end

section
/-
  The reference: Half and Full.
-/
namespace Go.Proofs
open Go.RowKit Go.Shelf Go.Lib
def halfX (c : Int) : List Int := if halfR (kataF c) = [] ∨ c = 0 then [c] else halfR (kataF c)
def rhalfS (s : ByteArray) : ByteArray := match refRunes s with | none => s | some l => textS (l.flatMap halfX)
theorem flat_step {f : Int → List Int} {L : List Int} {k : Nat} (h : k < L.length) : (L.drop k).flatMap f = f (L.getD k 0) ++ (L.drop (k + 1)).flatMap f := by
  rw [List.drop_eq_getElem_cons h, List.flatMap_cons]
  simp only [List.getD, List.getElem?_eq_getElem h, Option.getD_some]
theorem halfA_len : ∀ (l : List Int) (i : Nat) (c : Int) (r : List Int), halfA i l c = some r → r.length ≤ 2
  | [], _, _, _, h => by simp [halfA] at h
  | t :: l, i, c, r, h => by
    unfold halfA at h
    split at h
    · simp at h; subst h; simp
    · exact halfA_len l _ _ _ h
theorem halfB_len : ∀ (l : List Int) (i : Nat) (c : Int) (r : List Int), halfB i l c = some r → r.length ≤ 2
  | [], _, _, _, h => by simp [halfB] at h
  | t :: l, i, c, r, h => by
    unfold halfB at h
    split at h
    · simp at h; subst h; simp
    · split at h
      · simp at h; subst h; simp
      · exact halfB_len l _ _ _ h
theorem halfR_len (c : Int) : (halfR c).length ≤ 2 := by
  unfold halfR
  cases ha : halfA 0 tableL c with
  | some r => exact halfA_len _ _ _ _ ha
  | none =>
    cases hb : halfB 0 tableL c with
    | some r => exact halfB_len _ _ _ _ hb
    | none => simp
theorem own_mono {W : World} {B B' : Nat} {e : TypeId} {z : Nat} {v : Value} {n : Nat} {xs : List Value} (h : W.ownsRow B e z v n xs) (hB : B' ≤ B) : W.ownsRow B' e z v n xs := ownsRow_base h hB
set_option maxHeartbeats 8000000 in
set_option maxRecDepth 1000000 in
theorem Tryz.rhalf15 (s : ByteArray) (w : World) (hs : s.size ≤ 100000000000) :
    Calls Tryz.prog 17 #[.string s] w fun e w' => e = .returned (.string (rhalfS s)) ∧ Below w.heap.size w w' := by
  obtain ⟨i0, hi, hz0, hz1, hz2⟩ := info_parts Tryz.info21
  have h28 := Tryz.runes28 s w (by omega)
  obtain ⟨q, hq⟩ : ∃ q, rhalfS s = q := ⟨_, rfl⟩
  rw [hq]
  have HQ := Lib.hid hq
  clear hq
  cases hr : refRunes s with
  | none =>
    rw [hr] at h28
    have HR := Lib.hid hr
    clear hr
    unfold RunesEnd at h28
    go_enter Tryz.func17, Tryz.ntmps17
    go_wp2_with (go_at_call 35; refine h28.mono ?_; rintro e w1 ⟨rfl, hb1⟩)
    go_ret
    refine ⟨ret_strK ?_, hb1⟩
    rw [← HQ.out, rhalfS, HR.out]
  | some L =>
    rw [hr] at h28
    have hll := refRunes_len hr
    have hrg := refRunes_range hr
    obtain ⟨R, hR⟩ : ∃ R, L.flatMap halfX = R := ⟨_, rfl⟩
    have hq2 : q = textS R := by rw [← HQ.out, rhalfS, hr, ← hR]
    have HQ2 := Lib.hid hq2
    have HR := Lib.hid hR
    have HRG := Lib.hid hrg
    clear HQ hr hq2 hR hrg
    unfold RunesEnd at h28
    go_enter Tryz.func17, Tryz.ntmps17
    go_wp2_with (go_at_call 35; refine h28.mono ?_; rintro e w1 ⟨⟨v, rfl, hown0⟩, hb1⟩)
    clear h28
    have hb1z := hb1.size
    obtain ⟨ao, cap, rfl, hrow⟩ := row_forms hown0
    have HRW := Lib.hid hrow
    clear hown0 hrow
    go_loopw [5, 6] (fun vo vi wr => ∃ (k : Nat) (out : List Int), vi = .int .i64 k ∧ k ≤ L.length ∧ out.length ≤ 2 * k ∧ out ++ (L.drop k).flatMap halfX = R ∧ wr.ownsRow w1.heap.size 21 1 vo out.length (out.map (Value.int .i32)) ∧ Below w1.heap.size w1 wr) (fun _ vi _ => L.length - natK vi)
    case atStart => exact ⟨0, [], rfl, by omega, by simp, by simpa using HR.out, World.ownsRow_nil _ _ _ _, Below.refl _ _⟩
    case round =>
      obtain ⟨k, out, rfl, hk, hol, hout, hown, hbr⟩ := hrel
      have hbz := hbr.size
      have HO := Lib.hid hout
      have HW := Lib.hid hown
      clear hout hown
      by_cases hlt : k < L.length
      · obtain ⟨g, rfl, hgB, hgw, hcell⟩ := HRW.out (by omega)
        have hck := (hbr.cell (p := ⟨g, k, none⟩) hgw).trans (hcell k hlt)
        have hst := flat_step (f := halfX) hlt
        have hcr : chr (L.getD k 0) = true := HRG.out _ (getD_mem hlt)
        obtain ⟨c, hc⟩ : ∃ c, L.getD k 0 = c := ⟨_, rfl⟩
        rw [hc] at hck hst hcr
        have hcb : 0 ≤ c ∧ c ≤ 1114111 := by unfold chr at hcr; simp at hcr; omega
        clear hcell hc hcr
        have h33 := fun W => Tryz.kata33 c W (by omega) (by omega)
        have h34 := Tryz.half34 (kataF c)
        have h2 := halfR_len (kataF c)
        have hX : halfX c = if halfR (kataF c) = [] ∨ c = 0 then [c] else halfR (kataF c) := rfl
        obtain ⟨d, hd⟩ : ∃ d, kataF c = d := ⟨_, rfl⟩
        rw [hd] at h33 h34 h2 hX
        obtain ⟨H, hH⟩ : ∃ H, halfR d = H := ⟨_, rfl⟩
        rw [hH] at h34 h2 hX
        have HS := Lib.hid hst
        have HX := Lib.hid hX
        clear hst hd hH hX
        cases H with
        | nil =>
          go_wp2_with (first
            | (go_at_call 40; refine (h33 _).mono ?_; rintro e w' ⟨rfl, rfl⟩)
            | (go_at_call 41; refine (h34 _).mono ?_; rintro e w2 ⟨v7, rfl, hown7, hb2⟩; obtain ⟨ao7, cap7, rfl, hrow7⟩ := row_forms hown7; have hck2 := (hb2.cell (p := ⟨g, k, none⟩) (Nat.lt_of_lt_of_le hgw hbz)).trans hck; clear hown7 hrow7)
            | (at_builtin; refine wpList_append_own _ rfl _ _ 55 rfl w1.heap.size 21 i0 (.int .i32 0) 1 4 Tryz.underlying55 hi hz0 hz1 hz2 rfl (by decide) _ _ _ rfl ((ownsRow_kept HW.out hb2).alloc _) ⟨w2.heap.size, 0, none⟩ 1 1 [.int .i32 c] rfl rfl (cell_one_new _ _ _) (fun x hx => by simp at hx; subst hx; rfl) (by unfold maxLen; omega) (by omega) (by have := hb2.size; simp; omega) ?_; intro v' w3 hown' hgrow3 hnil3))
          go_roundw
          case rel =>
            refine ⟨k + 1, out ++ [c], by simp, by omega, by simp; omega, ?_, by simpa using hown', ?_⟩
            · rw [← HO.out, HS.out, HX.out, if_pos (by simp), List.append_assoc]
            · have hb3 : Below w1.heap.size w1 w2 := hbr.trans (hb2.mono hbz)
              exact (hb3.alloc hb3.size _).grown hgrow3 (by have := hb3.size; simp; omega) (ownsRow_ge HW.out)
          case measure => simp [natK]; omega
        | cons h0 H =>
          by_cases hc0 : c = 0
          · subst hc0
            go_wp2_with (first
              | (go_at_call 40; refine (h33 _).mono ?_; rintro e w' ⟨rfl, rfl⟩)
              | (go_at_call 41; refine (h34 _).mono ?_; rintro e w2 ⟨v7, rfl, hown7, hb2⟩; obtain ⟨ao7, cap7, rfl, hrow7⟩ := row_forms hown7; have hck2 := (hb2.cell (p := ⟨g, k, none⟩) (Nat.lt_of_lt_of_le hgw hbz)).trans hck; clear hown7 hrow7)
              | (at_builtin; refine wpList_append_own _ rfl _ _ 55 rfl w1.heap.size 21 i0 (.int .i32 0) 1 4 Tryz.underlying55 hi hz0 hz1 hz2 rfl (by decide) _ _ _ rfl ((ownsRow_kept HW.out hb2).alloc _) ⟨w2.heap.size, 0, none⟩ 1 1 [.int .i32 0] rfl rfl (cell_one_new _ _ _) (fun x hx => by simp at hx; subst hx; rfl) (by unfold maxLen; omega) (by omega) (by have := hb2.size; simp; omega) ?_; intro v' w3 hown' hgrow3 hnil3))
            go_roundw
            case rel =>
              refine ⟨k + 1, out ++ [0], by simp, by omega, by simp; omega, ?_, by simpa using hown', ?_⟩
              · rw [← HO.out, HS.out, HX.out, if_pos (by simp), List.append_assoc]
              · have hb3 : Below w1.heap.size w1 w2 := hbr.trans (hb2.mono hbz)
                exact (hb3.alloc hb3.size _).grown hgrow3 (by have := hb3.size; simp; omega) (ownsRow_ge HW.out)
            case measure => simp [natK]; omega
          · have hc0' : (c == 0) = false := by simpa using hc0
            have HC0 := Lib.hid hc0
            clear hc0
            have hHl : (h0 :: H).length = H.length + 1 := rfl
            obtain ⟨n7, hn7⟩ : ∃ n, (h0 :: H).length = n := ⟨_, rfl⟩
            have hn70 : 0 < n7 := by omega
            rw [hn7] at h34 h2
            have HN7 := Lib.hid hn7
            clear hn7 hHl
            go_wp2_with (first
              | (go_at_call 40; refine (h33 _).mono ?_; rintro e w' ⟨rfl, rfl⟩)
              | (go_at_call 41; refine (h34 _).mono ?_; rintro e w2 ⟨v7, rfl, hown7, hb2⟩; obtain ⟨g7, cap7, rfl, hg7B, hg7W, hcell7⟩ := row_read1 hown7 hn70; have hck2 := (hb2.cell (p := ⟨g, k, none⟩) (Nat.lt_of_lt_of_le hgw hbz)).trans hck; have HC7 := Lib.hid hcell7; have HO7 := Lib.hid hown7; clear hown7 hcell7)
              | (at_builtin; refine wpList_append_own _ rfl _ _ 55 rfl w1.heap.size 21 i0 (.int .i32 0) 1 4 Tryz.underlying55 hi hz0 hz1 hz2 rfl (by decide) _ _ _ rfl (ownsRow_kept HW.out hb2) ⟨g7, 0, none⟩ n7 cap7 ((h0 :: H).map (Value.int .i32)) rfl (by rw [List.length_map, HN7.out]; omega) HC7.out (ints_oneCell _ _) (by unfold maxLen; omega) (by omega) (by have := hb2.size; omega) ?_; intro v' w3 hown' hgrow3 hnil3))
            go_roundw
            case rel =>
              refine ⟨k + 1, out ++ (h0 :: H), by simp, by omega, by rw [List.length_append, HN7.out]; omega, ?_, ?_, ?_⟩
              · rw [← HO.out, HS.out, HX.out, if_neg (by simp [HC0.out]), List.append_assoc]
              · rw [List.length_append, HN7.out, List.map_append]; exact hown'
              · have hb3 : Below w1.heap.size w1 w2 := hbr.trans (hb2.mono hbz)
                exact hb3.grown hgrow3 hb3.size (ownsRow_ge HW.out)
            case measure => simp [natK]; omega
      · have hRe : out = R := by have := HO.out; rw [List.drop_eq_nil_of_le (by omega)] at this; simpa using this
        subst hRe
        have h30 := Tryz.text30 w1.heap.size out _ wr HW.out (by omega)
        go_wp2_with (go_at_call 37; refine h30.mono ?_; rintro e w2 ⟨rfl, hb2⟩)
        go_ret
        exact ⟨ret_strK HQ2.out.symm, hb1.trans ((hbr.trans (hb2.mono hbz)).mono hb1z)⟩
def fullC (c : Int) : Int := if btw c 65377 65437 = true then tableL.getD (c - 65377).toNat 0 else if c = 65438 then 12443 else if c = 65439 then 12444 else c
def pairC (c d : Int) : Int := if btw c 65377 65437 = true then markedF (fullC c) d else 0
def refFullGo : List Int → List Int
  | [] => []
  | [c] => [fullC c]
  | c :: d :: l => if pairC c d ≠ 0 then pairC c d :: refFullGo l else fullC c :: refFullGo (d :: l)
def rfullS (s : ByteArray) : ByteArray := match refRunes s with | none => s | some l => textS (refFullGo l)
theorem full_last {L : List Int} {k : Nat} (h : k + 1 = L.length) : refFullGo (L.drop k) = [fullC (L.getD k 0)] := by
  rw [List.drop_eq_getElem_cons (by omega : k < L.length), List.drop_eq_nil_of_le (by omega)]
  simp [refFullGo, List.getD, List.getElem?_eq_getElem (by omega : k < L.length)]
theorem full_two {L : List Int} {k : Nat} (h : k + 1 < L.length) : refFullGo (L.drop k) = if pairC (L.getD k 0) (L.getD (k + 1) 0) ≠ 0 then pairC (L.getD k 0) (L.getD (k + 1) 0) :: refFullGo (L.drop (k + 2)) else fullC (L.getD k 0) :: refFullGo (L.drop (k + 1)) := by
  rw [List.drop_eq_getElem_cons (by omega : k < L.length), List.drop_eq_getElem_cons h]
  simp only [refFullGo, List.getD, List.getElem?_eq_getElem (by omega : k < L.length), List.getElem?_eq_getElem h, Option.getD_some]
theorem full_one {L : List Int} {k : Nat} (h : k < L.length) (hp : ∀ d, pairC (L.getD k 0) d = 0) : refFullGo (L.drop k) = fullC (L.getD k 0) :: refFullGo (L.drop (k + 1)) := by
  by_cases h1 : k + 1 < L.length
  · rw [full_two h1, if_neg (by rw [hp]; simp)]
  · rw [full_last (by omega), List.drop_eq_nil_of_le (by omega)]; rfl
set_option maxHeartbeats 8000000 in
set_option maxRecDepth 1000000 in
theorem Tryz.rfull13 (s : ByteArray) (w : World) (hs : s.size ≤ 100000000000) :
    Calls Tryz.prog 15 #[.string s] w fun e w' => e = .returned (.string (rfullS s)) ∧ Below w.heap.size w w' := by
  obtain ⟨i0, hi, hz0, hz1, hz2⟩ := info_parts Tryz.info21
  have h28 := Tryz.runes28 s w (by omega)
  obtain ⟨q, hq⟩ : ∃ q, rfullS s = q := ⟨_, rfl⟩
  rw [hq]
  have HQ := Lib.hid hq
  clear hq
  cases hr : refRunes s with
  | none =>
    rw [hr] at h28
    have HR := Lib.hid hr
    clear hr
    unfold RunesEnd at h28
    go_enter Tryz.func15, Tryz.ntmps15
    go_wp2_with (go_at_call 35; refine h28.mono ?_; rintro e w1 ⟨rfl, hb1⟩)
    go_ret
    refine ⟨ret_strK ?_, hb1⟩
    rw [← HQ.out, rfullS, HR.out]
  | some L =>
    rw [hr] at h28
    have hll := refRunes_len hr
    have hrg := refRunes_range hr
    obtain ⟨R, hR⟩ : ∃ R, refFullGo L = R := ⟨_, rfl⟩
    have hq2 : q = textS R := by rw [← HQ.out, rfullS, hr, ← hR]
    have HQ2 := Lib.hid hq2
    have HR := Lib.hid hR
    have HRG := Lib.hid hrg
    clear HQ hr hq2 hR hrg
    unfold RunesEnd at h28
    have h31 := Tryz.table31
    have HLN := Lib.hid table_len
    go_enter Tryz.func15, Tryz.ntmps15
    go_wp2_with (first
      | (go_at_call 35; refine h28.mono ?_; rintro e w1 ⟨⟨v, rfl, hown0⟩, hb1⟩)
      | (go_at_call 38; refine (h31 _).mono ?_; rintro e w2 ⟨vt, rfl, hownt, hb2⟩))
    clear h28 h31
    have hb1z := hb1.size
    have hb2z := hb2.size
    obtain ⟨ao, cap, rfl, hrow⟩ := row_forms hown0
    obtain ⟨gt, capt, rfl, hgtB, hgtn, hgtw, hcellt⟩ := row_read hownt (by decide)
    have hnt : 61 ≤ tableL.length ∧ tableL.length ≤ 100 := by rw [HLN.out]; omega
    have HRW := Lib.hid hrow
    have HCT := Lib.hid hcellt
    clear hown0 hrow hownt hcellt
    obtain ⟨nt, hnt'⟩ : ∃ n, tableL.length = n := ⟨_, rfl⟩
    rw [hnt'] at hnt hgtn ⊢
    have HNT := Lib.hid hnt'
    clear hnt'
    go_loopw [6, 7] (fun vo vi wr => ∃ (k : Nat) (out : List Int), vi = .int .i64 k ∧ k ≤ L.length ∧ out.length ≤ k ∧ out ++ refFullGo (L.drop k) = R ∧ wr.ownsRow w2.heap.size 21 1 vo out.length (out.map (Value.int .i32)) ∧ Below w2.heap.size w2 wr) (fun _ vi _ => L.length - natK vi)
    case atStart => exact ⟨0, [], rfl, by omega, by simp, by simpa using HR.out, World.ownsRow_nil _ _ _ _, Below.refl _ _⟩
    case round =>
      obtain ⟨k, out, rfl, hk, hol, hout, hown, hbr⟩ := hrel
      have hbz := hbr.size
      have HO := Lib.hid hout
      have HW := Lib.hid hown
      clear hout hown
      by_cases hlt : k < L.length
      · obtain ⟨g, rfl, hgB, hgw, hcell⟩ := HRW.out (by omega)
        have hgw2 : g < w2.heap.size := Nat.lt_of_lt_of_le hgw hb2z
        have hck := (hbr.cell (p := ⟨g, k, none⟩) hgw2).trans ((hb2.cell (p := ⟨g, k, none⟩) hgw).trans (hcell k hlt))
        have hcr : chr (L.getD k 0) = true := HRG.out _ (getD_mem hlt)
        have h29 := Tryz.between29 (L.getD k 0) 65377 65437
        obtain ⟨c, hc⟩ : ∃ c, L.getD k 0 = c := ⟨_, rfl⟩
        rw [hc] at hck hcr h29
        have hcb : 0 ≤ c ∧ c ≤ 1114111 := by unfold chr at hcr; simp at hcr; omega
        have HC := Lib.hid hc
        clear hc hcr
        cases hb : btw c 65377 65437 with
        | true =>
          rw [hb] at h29
          obtain ⟨m, rfl⟩ : ∃ m : Nat, c = 65377 + m := ⟨(c - 65377).toNat, by unfold btw at hb; simp at hb; omega⟩
          have hm : m < 61 := by unfold btw at hb; simp at hb; omega
          have hcm := (hbr.cell (p := ⟨gt, m, none⟩) hgtw).trans (HCT.out m (by rw [HNT.out]; omega))
          have htr := table_range _ (getD_mem (l := tableL) (k := m) (by rw [HNT.out]; omega))
          obtain ⟨t, ht⟩ : ∃ t, tableL.getD m 0 = t := ⟨_, rfl⟩
          rw [ht] at hcm htr
          have hfc : fullC (65377 + (m : Int)) = t := by unfold fullC; rw [if_pos hb, show (65377 + (m : Int) - 65377).toNat = m by omega, ht]
          have hpc : ∀ d, pairC (65377 + (m : Int)) d = markedF t d := fun d => by unfold pairC; rw [if_pos hb, hfc]
          have HFC := Lib.hid hfc
          have HPC := Lib.hid hpc
          clear hb ht hfc hpc
          have h32 := fun d W => Tryz.marked32 t d W (by omega) (by omega)
          by_cases hlt1 : k + 1 < L.length
          · have hcd := (hbr.cell (p := ⟨g, k + 1, none⟩) hgw2).trans ((hb2.cell (p := ⟨g, k + 1, none⟩) hgw).trans (hcell (k + 1) hlt1))
            have hst := full_two hlt1
            rw [HC.out] at hst
            obtain ⟨d, hd⟩ : ∃ d, L.getD (k + 1) 0 = d := ⟨_, rfl⟩
            rw [hd, HPC.out, HFC.out] at hst
            rw [hd] at hcd
            replace h32 := h32 d
            obtain ⟨M, hM⟩ : ∃ M, markedF t d = M := ⟨_, rfl⟩
            rw [hM] at h32 hst
            clear hd hM hcell
            have hgx : g < wr.heap.size := Nat.lt_of_lt_of_le hgw2 hbz
            by_cases hM0 : M = 0
            · subst hM0
              rw [if_neg (by simp)] at hst
              have HS := Lib.hid hst
              clear hst
              go_wp2_with (first
                | (go_at_call 36; refine (h29 _).mono ?_; rintro e w' ⟨rfl, rfl⟩)
                | (go_at_call 39; refine (h32 _).mono ?_; rintro e w3 ⟨rfl, hb3⟩; have hcd := (hb3.cell (p := ⟨g, k + 1, none⟩) hgx).trans hcd; have hgx := Nat.lt_of_lt_of_le hgx hb3.size; have HW := Lib.hid (ownsRow_kept HW.out hb3); have hbr := hbr.trans (hb3.mono hbz); have hbz := hbr.size)
                | (at_builtin; refine wpList_append_own _ rfl _ _ 55 rfl w2.heap.size 21 i0 (.int .i32 0) 1 4 Tryz.underlying55 hi hz0 hz1 hz2 rfl (by decide) _ _ _ rfl (HW.out.alloc _) ⟨w3.heap.size, 0, none⟩ 1 1 [.int .i32 t] rfl rfl (cell_one_new _ _ _) (fun x hx => by simp at hx; subst hx; rfl) (by unfold maxLen; omega) (by omega) (by simp; omega) ?_; intro v' w4 hown' hgrow4 hnil4))
              go_roundw
              case rel =>
                refine ⟨k + 1, out ++ [t], by simp, by omega, by simp; omega, ?_, by simpa using hown', ?_⟩
                · rw [← HO.out, HS.out, List.append_assoc]; rfl
                · exact (hbr.alloc hbz _).grown hgrow4 (by simp; omega) (ownsRow_ge HW.out)
              case measure => simp [natK]; omega
            · have hM0' : (M == 0) = false := by simpa using hM0
              rw [if_pos hM0] at hst
              have HS := Lib.hid hst
              clear hst hM0
              go_wp2_with (first
                | (go_at_call 36; refine (h29 _).mono ?_; rintro e w' ⟨rfl, rfl⟩)
                | (go_at_call 39; refine (h32 _).mono ?_; rintro e w3 ⟨rfl, hb3⟩; have hcd := (hb3.cell (p := ⟨g, k + 1, none⟩) hgx).trans hcd; have hgx := Nat.lt_of_lt_of_le hgx hb3.size; have HW := Lib.hid (ownsRow_kept HW.out hb3); have hbr := hbr.trans (hb3.mono hbz); have hbz := hbr.size)
                | (at_builtin; refine wpList_append_own _ rfl _ _ 55 rfl w2.heap.size 21 i0 (.int .i32 0) 1 4 Tryz.underlying55 hi hz0 hz1 hz2 rfl (by decide) _ _ _ rfl (HW.out.alloc _) ⟨w3.heap.size, 0, none⟩ 1 1 [.int .i32 M] rfl rfl (cell_one_new _ _ _) (fun x hx => by simp at hx; subst hx; rfl) (by unfold maxLen; omega) (by omega) (by simp; omega) ?_; intro v' w4 hown' hgrow4 hnil4))
              go_roundw
              case rel =>
                refine ⟨k + 2, out ++ [M], by simp; omega, by omega, by simp; omega, ?_, by simpa using hown', ?_⟩
                · rw [← HO.out, HS.out, List.append_assoc]; rfl
                · exact (hbr.alloc hbz _).grown hgrow4 (by simp; omega) (ownsRow_ge HW.out)
              case measure => simp [natK]; omega
          · have hst := full_last (L := L) (k := k) (by omega)
            rw [HC.out, HFC.out] at hst
            have HS := Lib.hid (show refFullGo (L.drop k) = t :: refFullGo (L.drop (k + 1)) by rw [hst, List.drop_eq_nil_of_le (by omega)]; rfl)
            clear hst hcell h32
            go_wp2_with (first
              | (go_at_call 36; refine (h29 _).mono ?_; rintro e w' ⟨rfl, rfl⟩)
              | (at_builtin; refine wpList_append_own _ rfl _ _ 55 rfl w2.heap.size 21 i0 (.int .i32 0) 1 4 Tryz.underlying55 hi hz0 hz1 hz2 rfl (by decide) _ _ _ rfl (HW.out.alloc _) ⟨wr.heap.size, 0, none⟩ 1 1 [.int .i32 t] rfl rfl (cell_one_new _ _ _) (fun x hx => by simp at hx; subst hx; rfl) (by unfold maxLen; omega) (by omega) (by simp; omega) ?_; intro v' w4 hown' hgrow4 hnil4))
            go_roundw
            case rel =>
              refine ⟨k + 1, out ++ [t], by simp, by omega, by simp; omega, ?_, by simpa using hown', ?_⟩
              · rw [← HO.out, HS.out, List.append_assoc]; rfl
              · exact (hbr.alloc hbz _).grown hgrow4 (by simp; omega) (ownsRow_ge HW.out)
            case measure => simp [natK]; omega
        | false =>
          rw [hb] at h29
          have hp : ∀ d, pairC (L.getD k 0) d = 0 := fun d => by unfold pairC; rw [HC.out, if_neg (by rw [hb]; simp)]
          have hst := full_one hlt hp
          rw [HC.out] at hst
          clear hp hcell
          have hf : fullC c = if c = 65438 then 12443 else if c = 65439 then 12444 else c := by unfold fullC; rw [if_neg (by rw [hb]; simp)]
          have HB := Lib.hid hb
          clear hb
          by_cases h1 : c = 65438
          · rw [hf, if_pos h1] at hst
            have h1' : (c == 65438) = true := by simpa using h1
            have HS := Lib.hid hst
            clear hf hst h1
            go_wp2_with (first
              | (go_at_call 36; refine (h29 _).mono ?_; rintro e w' ⟨rfl, rfl⟩)
              | (at_builtin; refine wpList_append_own _ rfl _ _ 55 rfl w2.heap.size 21 i0 (.int .i32 0) 1 4 Tryz.underlying55 hi hz0 hz1 hz2 rfl (by decide) _ _ _ rfl (HW.out.alloc _) ⟨wr.heap.size, 0, none⟩ 1 1 [.int .i32 12443] rfl rfl (cell_one_new _ _ _) (fun x hx => by simp at hx; subst hx; rfl) (by unfold maxLen; omega) (by omega) (by simp; omega) ?_; intro v' w4 hown' hgrow4 hnil4))
            go_roundw
            case rel =>
              refine ⟨k + 1, out ++ [12443], by simp, by omega, by simp; omega, ?_, by simpa using hown', ?_⟩
              · rw [← HO.out, HS.out, List.append_assoc]; rfl
              · exact (hbr.alloc hbz _).grown hgrow4 (by simp; omega) (ownsRow_ge HW.out)
            case measure => simp [natK]; omega
          · have h1' : (c == 65438) = false := by simpa using h1
            rw [if_neg h1] at hf
            clear h1
            by_cases h2 : c = 65439
            · rw [hf, if_pos h2] at hst
              have h2' : (c == 65439) = true := by simpa using h2
              have HS := Lib.hid hst
              clear hf hst h2
              go_wp2_with (first
                | (go_at_call 36; refine (h29 _).mono ?_; rintro e w' ⟨rfl, rfl⟩)
                | (at_builtin; refine wpList_append_own _ rfl _ _ 55 rfl w2.heap.size 21 i0 (.int .i32 0) 1 4 Tryz.underlying55 hi hz0 hz1 hz2 rfl (by decide) _ _ _ rfl (HW.out.alloc _) ⟨wr.heap.size, 0, none⟩ 1 1 [.int .i32 12444] rfl rfl (cell_one_new _ _ _) (fun x hx => by simp at hx; subst hx; rfl) (by unfold maxLen; omega) (by omega) (by simp; omega) ?_; intro v' w4 hown' hgrow4 hnil4))
              go_roundw
              case rel =>
                refine ⟨k + 1, out ++ [12444], by simp, by omega, by simp; omega, ?_, by simpa using hown', ?_⟩
                · rw [← HO.out, HS.out, List.append_assoc]; rfl
                · exact (hbr.alloc hbz _).grown hgrow4 (by simp; omega) (ownsRow_ge HW.out)
              case measure => simp [natK]; omega
            · rw [hf, if_neg h2] at hst
              have h2' : (c == 65439) = false := by simpa using h2
              have HS := Lib.hid hst
              clear hf hst h2
              go_wp2_with (first
                | (go_at_call 36; refine (h29 _).mono ?_; rintro e w' ⟨rfl, rfl⟩)
                | (at_builtin; refine wpList_append_own _ rfl _ _ 55 rfl w2.heap.size 21 i0 (.int .i32 0) 1 4 Tryz.underlying55 hi hz0 hz1 hz2 rfl (by decide) _ _ _ rfl (HW.out.alloc _) ⟨wr.heap.size, 0, none⟩ 1 1 [.int .i32 c] rfl rfl (cell_one_new _ _ _) (fun x hx => by simp at hx; subst hx; rfl) (by unfold maxLen; omega) (by omega) (by simp; omega) ?_; intro v' w4 hown' hgrow4 hnil4))
              go_roundw
              case rel =>
                refine ⟨k + 1, out ++ [c], by simp, by omega, by simp; omega, ?_, by simpa using hown', ?_⟩
                · rw [← HO.out, HS.out, List.append_assoc]; rfl
                · exact (hbr.alloc hbz _).grown hgrow4 (by simp; omega) (ownsRow_ge HW.out)
              case measure => simp [natK]; omega
      · have hRe : out = R := by have := HO.out; rw [List.drop_eq_nil_of_le (by omega)] at this; simpa [refFullGo] using this
        subst hRe
        have h30 := Tryz.text30 w2.heap.size out _ wr HW.out (by omega)
        go_wp2_with (go_at_call 37; refine h30.mono ?_; rintro e w3 ⟨rfl, hb3⟩)
        go_ret
        exact ⟨ret_strK HQ2.out.symm, hb1.trans ((hb2.trans ((hbr.trans (hb3.mono hbz)).mono hb2z)).mono hb1z)⟩
end Go.Proofs
end
