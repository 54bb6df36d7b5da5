/-
  The evaluator of closed runs (a part): EvS0, EvS1, EvS2, EvS3.
-/
import Derived.Test.YtehhkecoedbjoaaGreatDoorEv1
import Derived.Laws.Strings
import Derived.Laws.Cells
import Derived.Laws.World
import Derived.OrdersIn
set_option linter.unusedVariables false
set_option linter.unusedSimpArgs false
set_option linter.unusedSectionVars false
section
/-
  Strings as lists of bytes: the machine's functions are the model's.
-/
namespace Go.Ev

theorem beqN (a b : Nat) : Nat.beq a b = (a == b) := by rw [Bool.eq_iff_iff]; simp
theorem u8_beq (a b : UInt8) : Nat.beq a.toNat b.toNat = (a == b) := by
  rw [Bool.eq_iff_iff]
  simp only [Nat.beq_eq, beq_iff_eq]
  exact UInt8.toNat_inj
theorem eqS_eq : ∀ a b : List UInt8, eqS a b = (a == b)
  | [], [] => rfl
  | [], _ :: _ => rfl
  | _ :: _, [] => rfl
  | a :: l, b :: m => by
    have : ((a :: l) == (b :: m)) = ((a == b) && (l == m)) := rfl
    rw [this, eqS, u8_beq, eqS_eq l m]
    cases a == b <;> rfl
theorem eqS_bytes (a b : ByteArray) : eqS a.data.toList b.data.toList = (a == b) := by
  rw [eqS_eq]
  obtain ⟨⟨a⟩⟩ := a; obtain ⟨⟨b⟩⟩ := b
  show (a == b) = ((⟨a⟩ : Array UInt8) == ⟨b⟩)
  rw [Bool.eq_iff_iff]; simp
theorem ltS_eq : ∀ a b : List UInt8, ltS a b = Op.bytesLess a b
  | [], [] => rfl
  | [], _ :: _ => rfl
  | _ :: _, [] => rfl
  | a :: l, b :: m => by
    rw [ltS, Op.bytesLess, ltS_eq l m, u8_beq]
    have h : Nat.blt a.toNat b.toNat = decide (a < b) := by
      rw [Bool.eq_iff_iff]; simp [Nat.blt_eq, UInt8.lt_iff_toNat_lt]
    rw [h]
    cases decide (a < b) <;> cases (a == b) <;> simp
theorem mkS_size (l : List UInt8) : (mkS l).size = l.length := rfl
theorem append_mkS (a b : ByteArray) : a ++ b = mkS (a.data.toList ++ b.data.toList) := by
  apply ByteArray.ext
  simp [mkS, ByteArray.data_append]
theorem extract_mkS (s : ByteArray) (l h : Nat) : s.extract l h = mkS ((s.data.toList.drop l).take (h - l)) := by
  apply ByteArray.ext
  apply Array.ext'
  simp [mkS, ByteArray.data_extract, List.drop_take]
theorem toNat_default : (default : UInt8).toNat = 0 := rfl
theorem get_b1 (s : ByteArray) (i : Nat) : (s.get! i).toNat = b1 (s.data.toList.drop i) := by
  obtain ⟨⟨l⟩⟩ := s
  show ((⟨l⟩ : Array UInt8)[i]!).toNat = _
  simp only []
  by_cases h : i < l.length
  · rw [List.drop_eq_getElem_cons h]
    simp [b1, h]
  · rw [List.drop_eq_nil_of_le (by omega)]
    have : (⟨l⟩ : Array UInt8)[i]! = default := by simp [Array.getElem!_eq_getD, h]
    rw [this]; rfl
theorem cont_b1 (s : ByteArray) (i k : Nat) : (decide (i + k < s.size) && (s.get! (i + k)).toNat / 64 == 2) = Nat.beq (b1 ((s.data.toList.drop i).drop k) / 64) 2 := by
  rw [get_b1, List.drop_drop]
  by_cases h : i + k < s.size
  · simp only [h, decide_true, Bool.true_and, beqN]
  · have : s.data.toList.drop (i + k) = [] := List.drop_eq_nil_of_le (by have : s.data.toList.length = s.size := by simp
                                                                         omega)
    simp [h, this, b1]; rfl
theorem decode_decL (s : ByteArray) (i : Nat) : Utf8.decode s i = decL (s.data.toList.drop i) := by
  have g (k : Nat) : (s.get! (i + k)).toNat = b1 ((s.data.toList.drop i).drop k) := by rw [get_b1, List.drop_drop]
  have c (k : Nat) := cont_b1 s i k
  unfold Utf8.decode
  simp only [g] at c ⊢
  simp only [c]
  unfold decL
  rw [List.drop_zero]
  generalize b1 (s.data.toList.drop i) = a
  generalize b1 ((s.data.toList.drop i).drop 1) = b
  generalize b1 ((s.data.toList.drop i).drop 2) = c
  generalize b1 ((s.data.toList.drop i).drop 3) = d
  unfold dec4
  rw [Bool.cond_eq_ite, Bool.cond_eq_ite, Bool.cond_eq_ite, Bool.cond_eq_ite, Bool.cond_eq_ite, Bool.cond_eq_ite, Bool.cond_eq_ite]
  refine ite_congr (by rw [Nat.blt_eq]) (fun _ => rfl) fun _ => ?_
  refine ite_congr (by rw [beqN (a / 32)]) (fun _ => ite_congr (by rw [Nat.ble_eq]) (fun _ => rfl) fun _ => rfl) fun _ => ?_
  refine ite_congr (by rw [beqN (a / 16)]) (fun _ => ite_congr ?_ (fun _ => rfl) fun _ => rfl) fun _ => ?_
  · simp only [Utf8.valid, Bool.and_eq_true, Bool.or_eq_true, decide_eq_true_eq, Nat.blt_eq, Nat.ble_eq, eq_iff_iff]
    omega
  refine ite_congr (by rw [beqN (a / 8)]) (fun _ => ite_congr ?_ (fun _ => rfl) fun _ => rfl) fun _ => rfl
  simp only [Utf8.valid, Bool.and_eq_true, Bool.or_eq_true, decide_eq_true_eq, Nat.ble_eq, eq_iff_iff]
  omega
theorem runesL_eq (s : ByteArray) : ∀ (b i : Nat) (acc : Array Value), (Conv.runesFrom s b i acc).toList = acc.toList ++ runesL b (s.data.toList.drop i) := by
  intro b
  induction b with
  | zero => intro i acc; simp [Conv.runesFrom, runesL]
  | succ b ih =>
    intro i acc
    have hs : s.data.toList.length = s.size := by simp
    rw [Conv.runesFrom]
    by_cases h : i < s.size
    · rw [if_pos h]
      simp only [ih]
      rw [decode_decL]
      have hd := List.drop_eq_getElem_cons (l := s.data.toList) (i := i) (by omega)
      rw [hd, runesL, ← hd]
      simp [List.drop_drop]
    · rw [if_neg h, List.drop_eq_nil_of_le (by omega)]
      simp [runesL]

/-! ### integers -/
theorem boolRec_some {α : Type} {x : Option α} {b : Bool} {v : α} (h : Bool.rec (motive := fun _ => Option α) none x b = some v) : b = true ∧ x = some v := by
  cases b
  · cases h
  · exact ⟨rfl, h⟩
theorem wrap_fit {k : IntKind} {n : Nat} (h : n ≤ maxN k) : k.wrap (Int.ofNat n) = Int.ofNat n := by
  have : (0 : Int) ≤ Int.ofNat n := Int.natCast_nonneg n
  have h' : (Int.ofNat n) ≤ ((maxN k : Nat) : Int) := Int.ofNat_le.2 h
  cases k <;> simp only [maxN] at h' <;> simp only [IntKind.wrap, IntKind.bits, IntKind.signed] <;> simp <;> simp at h' <;> omega
theorem fitN_some {k : IntKind} {n : Nat} {u : Value} (h : fitN k n = some u) : u = .int k (Int.ofNat n) ∧ n ≤ maxN k := by
  unfold fitN at h
  obtain ⟨h1, h2⟩ := boolRec_some h
  exact ⟨by simpa using h2.symm, Nat.le_of_ble_eq_true h1⟩
theorem maxN_lt (k : IntKind) : maxN k < 2 ^ k.bits := by cases k <;> decide
theorem maxN_pow (k : IntKind) : ∃ n, maxN k + 1 = 2 ^ n ∧ n ≤ k.bits := by
  cases k
  · exact ⟨7, by decide, by decide⟩
  · exact ⟨15, by decide, by decide⟩
  · exact ⟨31, by decide, by decide⟩
  · exact ⟨63, by decide, by decide⟩
  · exact ⟨8, by decide, by decide⟩
  · exact ⟨16, by decide, by decide⟩
  · exact ⟨32, by decide, by decide⟩
  · exact ⟨64, by decide, by decide⟩
theorem bits_small {k : IntKind} {x : Nat} (h : x ≤ maxN k) : (BitVec.ofInt k.bits (Int.ofNat x)).toNat = x := by
  have := maxN_lt k
  simp [BitVec.toNat_ofInt]
  have hx : x < 2 ^ k.bits := by omega
  exact Nat.mod_eq_of_lt hx
theorem int_lt_nat (x y : Nat) : (Int.ofNat x < Int.ofNat y) ↔ x < y := Int.ofNat_lt
theorem int_le_nat (x y : Nat) : (Int.ofNat x ≤ Int.ofNat y) ↔ x ≤ y := Int.ofNat_le

theorem bin_arith {op : BinOp} (k : IntKind) (a b : Int) (t : TypeId) (h : op = .add ∨ op = .sub ∨ op = .mul) : binOp op t (.int k a) (.int k b) = Op.intArith op k a b := by
  rcases h with rfl | rfl | rfl <;> simp [binOp]
theorem bin_div {op : BinOp} (k : IntKind) (a b : Int) (t : TypeId) (h : op = .quo ∨ op = .rem) : binOp op t (.int k a) (.int k b) = Op.intDiv op k a b := by
  rcases h with rfl | rfl <;> simp [binOp]
theorem bin_bits {op : BinOp} (k : IntKind) (a b : Int) (t : TypeId) (h : op = .and ∨ op = .or ∨ op = .xor) : binOp op t (.int k a) (.int k b) = Op.intBits op k a b := by
  rcases h with rfl | rfl | rfl <;> simp [binOp]
theorem bin_cmp {op : BinOp} (k : IntKind) (a b : Int) (t : TypeId) (h : op = .eql ∨ op = .neq ∨ op = .lss ∨ op = .leq ∨ op = .gtr ∨ op = .geq) :
    binOp op t (.int k a) (.int k b) = Op.intCmp op a b := by
  rcases h with rfl | rfl | rfl | rfl | rfl | rfl <;> simp [binOp]
theorem retV_pure (v : Value) : retV (pure v) = some v := rfl
theorem bitsFit {k : IntKind} {x y : Nat} (hx : x ≤ maxN k) (hy : y ≤ maxN k) : Nat.land x y ≤ maxN k ∧ Nat.lor x y ≤ maxN k ∧ Nat.xor x y ≤ maxN k := by
  obtain ⟨n, hn, _⟩ := maxN_pow k
  have h1 : x &&& y < 2 ^ n := Nat.and_lt_two_pow x (by omega)
  have h2 : x ||| y < 2 ^ n := Nat.or_lt_two_pow (by omega) (by omega)
  have h3 : x ^^^ y < 2 ^ n := Nat.xor_lt_two_pow (by omega) (by omega)
  have e1 : Nat.land x y = x &&& y := rfl
  have e2 : Nat.lor x y = x ||| y := rfl
  have e3 : Nat.xor x y = x ^^^ y := rfl
  rw [e1, e2, e3]
  omega

theorem fastI_sound {op : BinOp} {k : IntKind} {x y : Nat} {u : Value} {t : TypeId} (h : fastI op k x y = some u) : retV (binOp op t (.int k (Int.ofNat x)) (.int k (Int.ofNat y))) = some u := by
  cases op <;> simp only [fastI, fiNone] at h <;> try (cases h; done)
  · obtain ⟨rfl, h2⟩ := fitN_some h
    rw [bin_arith _ _ _ _ (by simp)]
    exact congrArg (fun n => some (Value.int k n)) (wrap_fit h2)
  · obtain ⟨h0, h⟩ := boolRec_some h
    have h0 := Nat.le_of_ble_eq_true h0
    obtain ⟨rfl, h2⟩ := fitN_some h
    rw [bin_arith _ _ _ _ (by simp)]
    refine congrArg (fun n => some (Value.int k n)) ((congrArg k.wrap ?_).trans (wrap_fit h2))
    exact (Int.ofNat_sub h0).symm
  · obtain ⟨rfl, h2⟩ := fitN_some h
    rw [bin_arith _ _ _ _ (by simp)]
    exact congrArg (fun n => some (Value.int k n)) (wrap_fit h2)
  · obtain ⟨h0, h⟩ := boolRec_some h
    have h0 := Nat.le_of_ble_eq_true h0
    obtain ⟨rfl, h2⟩ := fitN_some h
    rw [bin_div _ _ _ _ (by simp)]
    have hy : ¬ (Int.ofNat y = 0) := by simp; omega
    simp only [Op.intDiv, hy, if_false]
    exact congrArg (fun n => some (Value.int k n)) (wrap_fit h2)
  · obtain ⟨h0, h⟩ := boolRec_some h
    have h0 := Nat.le_of_ble_eq_true h0
    simp only [Option.some.injEq] at h; subst h
    rw [bin_div _ _ _ _ (by simp)]
    have hy : ¬ (Int.ofNat y = 0) := by simp; omega
    simp only [Op.intDiv, hy, if_false]
    rfl
  all_goals first
    | (obtain ⟨h0, h⟩ := boolRec_some h
       obtain ⟨h1, h⟩ := boolRec_some h
       have h0 := Nat.le_of_ble_eq_true h0
       have h1 := Nat.le_of_ble_eq_true h1
       simp only [Option.some.injEq] at h; subst h
       rw [bin_bits _ _ _ _ (by simp)]
       refine congrArg (fun n => some (Value.int k n)) ?_
       first
         | (refine (congrArg k.wrap ?_).trans (wrap_fit (bitsFit h0 h1).1)
            simp only [BitVec.toNat_and, bits_small h0, bits_small h1]; rfl)
         | (refine (congrArg k.wrap ?_).trans (wrap_fit (bitsFit h0 h1).2.1)
            simp only [BitVec.toNat_or, bits_small h0, bits_small h1]; rfl)
         | (refine (congrArg k.wrap ?_).trans (wrap_fit (bitsFit h0 h1).2.2)
            simp only [BitVec.toNat_xor, bits_small h0, bits_small h1]; rfl))
    | (simp only [fiEql, fiNeq, fiLss, fiLeq, fiGtr, fiGeq, Option.some.injEq] at h; subst h
       rw [bin_cmp _ _ _ _ (by simp)]
       refine congrArg (fun n => some (Value.bool n)) ?_
       simp only [beqN, Nat.blt_eq, bne, GT.gt, GE.ge, int_lt_nat, int_le_nat]
       rw [Bool.eq_iff_iff]
       simp [Int.ofNat_inj])

theorem shN_sound {op : BinOp} {k k' : IntKind} {x y : Nat} {u : Value} {t : TypeId} (h : shN op k x y = some u) : retV (binOp op t (.int k (Int.ofNat x)) (.int k' (Int.ofNat y))) = some u := by
  have hy : ¬ (Int.ofNat y < 0) := by simp
  cases op <;> simp only [shN, fiNone] at h <;> try (cases h; done)
  · obtain ⟨h0, h⟩ := boolRec_some h
    simp only [Bool.and_eq_true, Nat.blt_eq] at h0
    obtain ⟨h0, h1⟩ := h0
    simp only [Option.some.injEq] at h; subst h
    simp only [binOp, Op.shift, hy, if_false]
    refine congrArg (fun n => some (Value.int k n)) ?_
    have hm : min (Int.ofNat y).toNat k.bits = y := by
      have : bitsN k = k.bits := by cases k <;> rfl
      have : (Int.ofNat y).toNat = y := rfl
      omega
    rw [hm]
    have e : Int.ofNat x * 2 ^ y = ((x * 2 ^ y : Nat) : Int) := by push_cast; rfl
    rw [e]
    have e2 : x.shiftLeft y = x * 2 ^ y := Nat.shiftLeft_eq x y
    rw [show Nat.shiftLeft x y = x * 2 ^ y from e2]
    generalize x * 2 ^ y = z
    cases k <;> first
      | (simp [codeN] at h1; done)
      | (simp only [IntKind.wrap, IntKind.bits, IntKind.signed, maxN]; rfl)
  · obtain ⟨h0, h⟩ := boolRec_some h
    have h0 := Nat.le_of_ble_eq_true h0
    simp only [Option.some.injEq] at h; subst h
    simp only [binOp, Op.shift, hy, if_false]
    refine congrArg (fun n => some (Value.int k n)) ?_
    have hm : min (Int.ofNat y).toNat k.bits = y := by
      have : bitsN k = k.bits := by cases k <;> rfl
      have : (Int.ofNat y).toNat = y := rfl
      omega
    rw [hm]
    have e2 : x.shiftRight y = x / 2 ^ y := Nat.shiftRight_eq_div_pow x y
    rw [show Nat.shiftRight x y = x / 2 ^ y from e2]
    have e3 : ((2 : Int) ^ y) = ((2 ^ y : Nat) : Int) := by push_cast; rfl
    rw [e3]
    show (x : Int).fdiv ((2 ^ y : Nat) : Int) = ((x / 2 ^ y : Nat) : Int)
    rw [Int.fdiv_eq_ediv_of_nonneg _ (Int.natCast_nonneg _)]; rfl

theorem orElse_some {a b : Option Value} {u : Value} (h : orElseO a b = some u) : a = some u ∨ b = some u := by
  cases a
  · exact .inr h
  · exact .inl h
theorem sameK_eq {k k' : IntKind} (h : sameK k k' = true) : k = k' := by
  have := Nat.eq_of_beq_eq_true h
  cases k <;> cases k' <;> first
    | rfl
    | (simp [codeN] at this; done)
theorem binI_sound {op : BinOp} {k k' : IntKind} {a b : Int} {u : Value} {t : TypeId} (h : binI op t k a k' b = some u) : retV (binOp op t (.int k a) (.int k' b)) = some u := by
  cases a with
  | negSucc x => exact h
  | ofNat x =>
    cases b with
    | negSucc y => exact h
    | ofNat y =>
      rcases orElse_some h with h | h
      · rcases orElse_some h with h | h
        · exact shN_sound h
        · obtain ⟨h0, h1⟩ := boolRec_some h
          cases sameK_eq h0
          exact fastI_sound h1
      · exact h

theorem binS_sound {op : BinOp} {a b : ByteArray} {u : Value} {t : TypeId} (h : binS op a.data.toList b.data.toList = some u) : retV (binOp op t (.string a) (.string b)) = some u := by
  have hb : ∀ op, binOp op t (.string a) (.string b) = Op.stringOp op a b := by intro op; cases op <;> simp [binOp]
  rw [hb]
  cases op <;> simp only [binS] at h <;> try (cases h; done)
  · cases hc : Nat.ble (a.data.toList.length + b.data.toList.length) 1099511627776 with
    | false => rw [hc] at h; cases h
    | true =>
      simp only [hc, cond_true, Option.some.injEq] at h; subst h
      have hc := Nat.le_of_ble_eq_true hc
      have : ¬ (((a.size + b.size : Nat) : Int) > IntKind.i64.max) := by
        have h1 : a.data.toList.length = a.size := by simp
        have h2 : b.data.toList.length = b.size := by simp
        simp [IntKind.max, IntKind.signed, IntKind.bits]; omega
      simp only [Op.stringOp, this, if_false]
      exact congrArg (fun s => some (Value.string s)) (append_mkS a b)
  all_goals
    simp only [Option.some.injEq] at h; subst h
    simp only [Op.stringOp, ByteArray.toList_eq, eqS_eq, ltS_eq]
    rfl
end Go.Ev
end

section
/-
  How the abstract machine's state stands to the model's: values, frames, heaps.
-/
namespace Go.Ev

/-- Where a block of the abstract machine lies: the model's block, the first cell, by how many elements its capacity is greater. -/
structure Pl where
  b : Nat
  o : Nat
  s : Nat
abbrev Ren := Nat → Option Pl

inductive FnR (ρ : Ren) : Fn → Fn → Prop
  | func (f) : FnR ρ (.func f) (.func f)
  | method (n) : FnR ρ (.method n) (.method n)
  | methodOf (t n) : FnR ρ (.methodOf t n) (.methodOf t n)
  | via (t p f r) : FnR ρ (.via t p f r) (.via t p f r)
  | yield {l pl} : ρ l = some pl → FnR ρ (.yield l) (.yield pl.b)

def slk (sp : Option Nat) (pl : Pl) : Nat := if sp.isSome then 0 else pl.s

mutual
inductive VR (ρ : Ren) : Value → Value → Prop
  | bool (b) : VR ρ (.bool b) (.bool b)
  | int (k n) : VR ρ (.int k n) (.int k n)
  | float (k n) : VR ρ (.float k n) (.float k n)
  | complex (k n m) : VR ρ (.complex k n m) (.complex k n m)
  | string (s) : VR ρ (.string s) (.string s)
  | nilptr : VR ρ (.pointer none) (.pointer none)
  | ptr {id off pl} : ρ id = some pl → VR ρ (.pointer (some ⟨id, off, none⟩)) (.pointer (some ⟨pl.b, pl.o + off, none⟩))
  | nilslice (l c) : VR ρ (.slice none l c) (.slice none l c)
  | slice {id off sp len cap pl o'} : ρ id = some pl → (len + cap + slk sp pl ≠ 0 → o' = pl.o + off) →
      VR ρ (.slice (some ⟨id, off, sp⟩) len cap) (.slice (some ⟨pl.b, o', none⟩) len (cap + slk sp pl))
  | nilmap : VR ρ (.map none) (.map none)
  | map {id pl} : ρ id = some pl → VR ρ (.map (some id)) (.map (some pl.b))
  | nilchan : VR ρ (.chan none) (.chan none)
  | func {fn fn' a a' c c'} : FnR ρ fn fn' → LR ρ a a' → LR ρ c c' → VR ρ (.func fn ⟨a⟩ ⟨c⟩) (.func fn' ⟨a'⟩ ⟨c'⟩)
  | nilFunc : VR ρ .nilFunc .nilFunc
  | iface {t v v'} : VR ρ v v' → VR ρ (.iface t v) (.iface t v')
  | nilIface : VR ρ .nilIface .nilIface
  | agg {l l'} : LR ρ l l' → VR ρ (.agg ⟨l⟩) (.agg ⟨l'⟩)
  | tuple {l l'} : LR ρ l l' → VR ρ (.tuple ⟨l⟩) (.tuple ⟨l'⟩)
inductive LR (ρ : Ren) : List Value → List Value → Prop
  | nil : LR ρ [] []
  | cons {v v' l l'} : VR ρ v v' → LR ρ l l' → LR ρ (v :: l) (v' :: l')
end

def Ren.le (ρ ρ' : Ren) : Prop := ∀ id pl, ρ id = some pl → ρ' id = some pl
theorem Ren.le_refl (ρ : Ren) : ρ.le ρ := fun _ _ h => h
theorem Ren.le_trans {ρ ρ' ρ'' : Ren} (h : ρ.le ρ') (h' : ρ'.le ρ'') : ρ.le ρ'' := fun _ _ e => h' _ _ (h _ _ e)

theorem FnR.mono {ρ ρ' : Ren} (h : ρ.le ρ') {f f'} (r : FnR ρ f f') : FnR ρ' f f' := by
  cases r with
  | func f => exact .func f
  | method n => exact .method n
  | methodOf t n => exact .methodOf t n
  | via t p f r => exact .via t p f r
  | yield e => exact .yield (h _ _ e)

mutual
theorem VR.mono {ρ ρ' : Ren} (h : ρ.le ρ') {v v' : Value} (r : VR ρ v v') : VR ρ' v v' :=
  match r with
  | .bool b => .bool b
  | .int k n => .int k n
  | .float k n => .float k n
  | .complex k n m => .complex k n m
  | .string s => .string s
  | .nilptr => .nilptr
  | .ptr e => .ptr (h _ _ e)
  | .nilslice l c => .nilslice l c
  | .slice e f => .slice (h _ _ e) f
  | .nilmap => .nilmap
  | .map e => .map (h _ _ e)
  | .nilchan => .nilchan
  | .func f a c => .func (f.mono h) (LR.mono h a) (LR.mono h c)
  | .nilFunc => .nilFunc
  | .iface r => .iface (VR.mono h r)
  | .nilIface => .nilIface
  | .agg l => .agg (LR.mono h l)
  | .tuple l => .tuple (LR.mono h l)
theorem LR.mono {ρ ρ' : Ren} (h : ρ.le ρ') {l l' : List Value} (r : LR ρ l l') : LR ρ' l l' :=
  match r with
  | .nil => .nil
  | .cons a b => .cons (VR.mono h a) (LR.mono h b)
end

section
variable {ρ : Ren}
theorem LR.length : ∀ {l l' : List Value}, LR ρ l l' → l.length = l'.length
  | _, _, .nil => rfl
  | _, _, .cons _ h => by simp [h.length]
theorem LR.get : ∀ {l l' : List Value}, LR ρ l l' → ∀ {i : Nat} {v : Value}, l[i]? = some v → ∃ v', l'[i]? = some v' ∧ VR ρ v v'
  | _, _, .nil, i, v, h => by simp at h
  | _, _, .cons a r, i, v, h => by
    cases i with
    | zero => simp at h; subst h; exact ⟨_, rfl, a⟩
    | succ i => simp at h; obtain ⟨v', h1, h2⟩ := r.get h; exact ⟨v', by simpa using h1, h2⟩
theorem LR.append : ∀ {l l' m m' : List Value}, LR ρ l l' → LR ρ m m' → LR ρ (l ++ m) (l' ++ m')
  | _, _, _, _, .nil, h => h
  | _, _, _, _, .cons a r, h => .cons a (r.append h)
theorem LR.take : ∀ {l l' : List Value} (n : Nat), LR ρ l l' → LR ρ (l.take n) (l'.take n)
  | _, _, 0, _ => by simp; exact .nil
  | _, _, _ + 1, .nil => by simp; exact .nil
  | _, _, n + 1, .cons a r => by simp; exact .cons a (r.take n)
theorem LR.drop : ∀ {l l' : List Value} (n : Nat), LR ρ l l' → LR ρ (l.drop n) (l'.drop n)
  | _, _, 0, h => by simpa using h
  | _, _, _ + 1, .nil => by simp; exact .nil
  | _, _, n + 1, .cons a r => by simp; exact r.drop n
theorem LR.set : ∀ {l l' : List Value} (i : Nat) {v v' : Value}, LR ρ l l' → VR ρ v v' → LR ρ (l.set i v) (l'.set i v')
  | _, _, _, _, _, .nil, _ => by simp; exact .nil
  | _, _, 0, _, _, .cons _ r, h => by simp; exact .cons h r
  | _, _, i + 1, _, _, .cons a r, h => by simp; exact .cons a (r.set i h)
theorem LR.of_get : ∀ {l l' : List Value}, l.length = l'.length → (∀ (i : Nat) v v', l[i]? = some v → l'[i]? = some v' → VR ρ v v') → LR ρ l l'
  | [], [], _, _ => .nil
  | [], _ :: _, h, _ => by simp at h
  | _ :: _, [], h, _ => by simp at h
  | a :: l, a' :: l', h, H => .cons (H 0 a a' rfl rfl) (LR.of_get (by simpa using h) fun i v v' h1 h2 => H (i + 1) v v' (by simpa using h1) (by simpa using h2))

theorem VR.cellsOf {v v' : Value} (h : VR ρ v v') : LR ρ (cellsOfV v) v'.cells.toList := by
  have h0 := h
  cases h <;> first
    | exact LR.cons h0 LR.nil
    | assumption
theorem VR.one_eq {v v' : Value} (h : VR ρ v v') : v'.oneCell' = one v := by cases h <;> rfl
theorem LR.one_all : ∀ {l l' : List Value}, LR ρ l l' → l.all one = true → ∀ u ∈ l', u.oneCell' = true
  | _, _, .nil, _, u, hu => by simp at hu
  | _, _, .cons a r, h, u, hu => by
    simp only [List.all_cons, Bool.and_eq_true] at h
    rcases List.mem_cons.1 hu with rfl | hu
    · rw [a.one_eq]; exact h.1
    · exact r.one_all h.2 u hu

theorem VR.plainCell_refl {v : Value} (h : plainCell v = true) : VR ρ v v := by
  unfold plainCell at h
  split at h <;> first
    | constructor
    | (simp at h; done)
theorem LR.plain_refl : ∀ {l : List Value}, l.all plainCell = true → LR ρ l l
  | [], _ => .nil
  | v :: l, h => by
    simp only [List.all_cons, Bool.and_eq_true] at h
    exact .cons (VR.plainCell_refl h.1) (LR.plain_refl h.2)
theorem VR.plain_refl {v : Value} (h : plainV v = true) : VR ρ v v := by
  unfold plainV at h
  split at h
  · rename_i cs; obtain ⟨l⟩ := cs; exact .agg (LR.plain_refl h)
  · rename_i cs; obtain ⟨l⟩ := cs; exact .tuple (LR.plain_refl h)
  · exact .iface (VR.plainCell_refl h)
  · exact VR.plainCell_refl h
/-- A value without addresses stands to itself alone. -/
theorem VR.plainCell_eq {v v' : Value} (h : VR ρ v v') (hp : plainCell v = true) : v' = v := by
  cases h <;> simp_all [plainCell]
theorem LR.plain_eq : ∀ {l l' : List Value}, LR ρ l l' → l.all plainCell = true → l' = l
  | _, _, .nil, _ => rfl
  | _, _, .cons a r, h => by
    simp only [List.all_cons, Bool.and_eq_true] at h
    rw [a.plainCell_eq h.1, r.plain_eq h.2]
end

/-- The entries of a map. -/
inductive ER (ρ : Ren) : List MapEntry → List MapEntry → Prop
  | nil : ER ρ [] []
  | cons {e e' l l'} : VR ρ e.key e'.key → VR ρ e.val e'.val → e.born = e'.born → ER ρ l l' → ER ρ (e :: l) (e' :: l')
theorem ER.mono {ρ ρ' : Ren} (h : ρ.le ρ') : ∀ {l l' : List MapEntry}, ER ρ l l' → ER ρ' l l'
  | _, _, .nil => .nil
  | _, _, .cons a b c r => .cons (a.mono h) (b.mono h) c (r.mono h)

/-- A frame's temporaries. -/
def TR (ρ : Ren) (t : T Value) (sz : Nat) (a : Array Value) : Prop := sz = a.size ∧ ∀ i v, t.get i = some v → ∃ v', a[i]? = some v' ∧ VR ρ v v'
theorem TR.mono {ρ ρ' : Ren} (h : ρ.le ρ') {t sz a} (r : TR ρ t sz a) : TR ρ' t sz a :=
  ⟨r.1, fun i v e => let ⟨v', h1, h2⟩ := r.2 i v e; ⟨v', h1, h2.mono h⟩⟩

/-- The regions of a code that draw their order are in order. -/
def CR (P : Program) : Code → Prop
  | .region _ ops draw => draw = true → Region.ok P.types ops true = true
  | .seq a b => CR P a ∧ CR P b
  | .cond _ a b => CR P a ∧ CR P b
  | .rangeFunc _ _ a b => CR P a ∧ CR P b
  | .block _ c => CR P c
  | .loop c => CR P c
  | .scope c => CR P c
  | _ => True

/-- A block. -/
def BR (P : Program) (ρ : Ren) (pl : Pl) (w : World) : HB → Prop
  | .cells c n e lo hi x => ∃ (C : Array Value) (fz : Nat × Nat), w.heap[pl.b]? = some (.cells C e fz) ∧ pl.o + n ≤ C.size ∧
      (∀ i, P.info? e = some i → pl.o + n + pl.s * i.size ≤ C.size) ∧
      (∀ i v, c.get i = some v → i < n ∧ ∃ v', C[pl.o + i]? = some v' ∧ VR ρ v v') ∧
      (fz.1 = fz.2 ∨ (lo = 1 ∧ hi = 0 ∧ C.size ≤ fz.1) ∨ (pl.o + lo ≤ fz.1 ∧ fz.1 ≤ fz.2 ∧ fz.2 ≤ pl.o + hi)) ∧ (x = true → pl.o = 0 ∧ C.size = n)
  | .map es ck => ∃ es', w.heap[pl.b]? = some (.map es' ck) ∧ ER ρ es es'.toList
  | .str s pos => w.heap[pl.b]? = some (.stringIter s pos) ∧ pl.o = 0
  | .miter none since seen last => w.heap[pl.b]? = some (.mapIter none since ⟨seen⟩ last) ∧ pl.o = 0
  | .miter (some m) since seen last => ∃ plm, ρ m = some plm ∧ w.heap[pl.b]? = some (.mapIter (some plm.b) since ⟨seen⟩ last) ∧ pl.o = 0
  | .loop st pend tm sz ps as body d => ∃ L : Loop, w.heap[pl.b]? = some (.loop L) ∧ L.state = st ∧ L.pending = pend ∧ L.params.toList = ps ∧ L.assign = as ∧ L.body = body ∧
      TR ρ tm sz L.tmps ∧ CR P as ∧ CR P body ∧ ∃ pld, ρ d = some pld ∧ L.defers = pld.b
  | .dfr taken => w.heap[pl.b]? = some (.deferred (if taken then none else some []))
  | .dead => True
  | .umap es => es.all (fun p => plainV p.1 && plainV p.2) = true ∧ ∃ es' ck, w.heap[pl.b]? = some (.map es' ck) ∧ (es'.toList.map fun e => (e.key, e.val)).Perm es
  | .ucells gs e => gs.all (fun g => g.all plainCell) = true ∧ ∃ (C : Array Value) (fz : Nat × Nat) (gs' : List (List Value)), w.heap[pl.b]? = some (.cells C e fz) ∧ gs'.Perm gs ∧ fz.1 = fz.2 ∧
      (∀ i, P.info? e = some i → pl.o + gs'.flatten.length + pl.s * i.size ≤ C.size) ∧ ∀ i v, gs'.flatten[i]? = some v → C[pl.o + i]? = some v

theorem BR.mono {P : Program} {ρ ρ' : Ren} (h : ρ.le ρ') {pl : Pl} {w w' : World} (hw : w'.heap[pl.b]? = w.heap[pl.b]?) {hb : HB} (r : BR P ρ pl w hb) : BR P ρ' pl w' hb := by
  cases hb with
  | cells c n e lo hi x =>
    obtain ⟨C, fz, h1, h2, h3, h4, h5, h6⟩ := r
    exact ⟨C, fz, hw.trans h1, h2, h3, fun i v e => let ⟨a, v', b, c⟩ := h4 i v e; ⟨a, v', b, c.mono h⟩, h5, h6⟩
  | map es ck => obtain ⟨es', h1, h2⟩ := r; exact ⟨es', hw.trans h1, h2.mono h⟩
  | str s pos => exact ⟨hw.trans r.1, r.2⟩
  | miter m since seen last =>
    cases m with
    | none => exact ⟨hw.trans r.1, r.2⟩
    | some m => obtain ⟨plm, h1, h2, h3⟩ := r; exact ⟨plm, h _ _ h1, hw.trans h2, h3⟩
  | loop st pend tm sz ps as body d =>
    obtain ⟨L, h1, h2, h3, h4, h5, h6, h7, h10, h11, pld, h8, h9⟩ := r
    exact ⟨L, hw.trans h1, h2, h3, h4, h5, h6, h7.mono h, h10, h11, pld, h _ _ h8, h9⟩
  | dfr t => exact hw.trans r
  | dead => trivial
  | umap es => obtain ⟨h0, es', ck, h1, h2⟩ := r; exact ⟨h0, es', ck, hw.trans h1, h2⟩
  | ucells gs e => obtain ⟨h0, C, fz, gs', h1, h2⟩ := r; exact ⟨h0, C, fz, gs', hw.trans h1, h2⟩

/-- The heap, as a function. -/
structure Hok (P : Program) (τ : Tab) (ρ : Ren) (H : Nat → Option HB) (nx : Nat) (w : World) : Prop where
  fresh : ∀ id, nx ≤ id → ρ id = none
  hr : ∀ id pl hb, ρ id = some pl → H id = some hb → BR P ρ pl w hb
  bnd : ∀ id pl, ρ id = some pl → pl.b < w.heap.size
  ord : ∀ i j pi pj hi, ρ i = some pi → ρ j = some pj → H i = some hi → i < j → pi.b = pj.b → hi.live = false
  glob : ∀ g, g < τ.ng → ρ g = some ⟨g, 0, 0⟩
theorem Hok.inj {P : Program} {τ : Tab} {ρ : Ren} {H : Nat → Option HB} {nx : Nat} {w : World} (h : Hok P τ ρ H nx w) : ∀ i j pi pj hi hj, ρ i = some pi → ρ j = some pj → H i = some hi → H j = some hj → hi.live = true → hj.live = true → pi.b = pj.b → i = j := by
  intro i j pi pj hi hj ei ej eHi eHj li lj hb
  rcases Nat.lt_trichotomy i j with hlt | hlt | hlt
  · rw [h.ord i j pi pj hi ei ej eHi hlt hb] at li; cases li
  · exact hlt
  · rw [h.ord j i pj pi hj ej ei eHj hlt hb.symm] at lj; cases lj

/-- What has become of the world: blocks that stood before have been written only where a block from number lo on lies. -/
structure Stp (ρ : Ren) (w : World) (nx : Nat) (ρ' : Ren) (w' : World) (nx' : Nat) (lo : WS) : Prop where
  ext : ∀ id, id < nx → ρ' id = ρ id
  size : w.heap.size ≤ w'.heap.size
  chg : ∀ b, b < w.heap.size → (∀ id pl, lo.has id → ρ id = some pl → pl.b ≠ b) → w'.heap[b]? = w.heap[b]?
  new : ∀ id pl, nx ≤ id → ρ' id = some pl → w.heap.size ≤ pl.b ∨ ∃ j pj, lo.has j ∧ ρ j = some pj ∧ pj.b = pl.b
  nx : nx ≤ nx'
  os : w'.os = w.os
  out : w'.output = w.output
  tape : w'.tape = w.tape
  drawn : w.drawn ≤ w'.drawn

theorem Stp.refl (ρ : Ren) (w : World) (nx : Nat) (lo : WS) (hf : ∀ id, nx ≤ id → ρ id = none) : Stp ρ w nx ρ w nx lo :=
  ⟨fun _ _ => rfl, Nat.le_refl _, fun _ _ _ => rfl, fun id pl h e => (by rw [hf id h] at e; cases e), Nat.le_refl _, rfl, rfl, rfl, Nat.le_refl _⟩

theorem Stp.trans {ρ ρ1 ρ2 : Ren} {w w1 w2 : World} {nx nx1 nx2 : Nat} {lo1 lo2 : WS} (h1 : Stp ρ w nx ρ1 w1 nx1 lo1) (h2 : Stp ρ1 w1 nx1 ρ2 w2 nx2 lo2)
    (hlo : lo2 ≤ lo1) (hf : ∀ id, nx ≤ id → ρ id = none) : Stp ρ w nx ρ2 w2 nx2 lo2 := {
  ext id h := (h2.ext id (Nat.lt_of_lt_of_le h h1.nx)).trans (h1.ext id h)
  size := Nat.le_trans h1.size h2.size
  chg b hb hh := by
    have hb1 : w1.heap[b]? = w.heap[b]? := h1.chg b hb fun id pl hl e => hh id pl (hlo _ hl) e
    rw [← hb1]
    refine h2.chg b (Nat.lt_of_lt_of_le hb h1.size) fun id pl hl e => ?_
    rcases Nat.lt_or_ge id nx with hid | hid
    · rw [h1.ext id hid] at e; exact hh id pl hl e
    · rcases h1.new id pl hid e with h | ⟨j, pj, hj, ej, hpj⟩
      · omega
      · rw [← hpj]; exact hh j pj (hlo _ hj) ej
  new id pl hid e := by
    rcases Nat.lt_or_ge id nx1 with hid1 | hid1
    · rw [h2.ext id hid1] at e
      rcases h1.new id pl hid e with h | ⟨j, pj, hj, ej, hpj⟩
      · exact .inl h
      · exact .inr ⟨j, pj, hlo _ hj, ej, hpj⟩
    · rcases h2.new id pl hid1 e with h | ⟨j, pj, hj, ej, hpj⟩
      · exact .inl (Nat.le_trans h1.size h)
      · rcases Nat.lt_or_ge j nx with hjn | hjn
        · rw [h1.ext j hjn] at ej; exact .inr ⟨j, pj, hj, ej, hpj⟩
        · rcases h1.new j pj hjn ej with h | ⟨i, pi, hi, ei, hpi⟩
          · exact .inl (by rw [← hpj]; exact h)
          · exact .inr ⟨i, pi, hlo _ hi, ei, hpi.trans hpj⟩
  nx := Nat.le_trans h1.nx h2.nx
  os := h2.os.trans h1.os
  out := h2.out.trans h1.out
  tape := h2.tape.trans h1.tape
  drawn := Nat.le_trans h1.drawn h2.drawn }

/-- Less is claimed written where the bound is less. -/
theorem Stp.lower {ρ ρ' : Ren} {w w' : World} {nx nx' : Nat} {lo lo' : WS} (h : Stp ρ w nx ρ' w' nx' lo) (hl : lo' ≤ lo) : Stp ρ w nx ρ' w' nx' lo' :=
  { h with
    chg := fun b hb hh => h.chg b hb fun id pl hi e => hh id pl (hl _ hi) e
    new := fun id pl hi e => (h.new id pl hi e).imp (fun x => x) fun ⟨j, pj, a, b, c⟩ => ⟨j, pj, hl _ a, b, c⟩ }

theorem Stp.le {ρ ρ' : Ren} {w w' : World} {nx nx' : Nat} {lo : WS} (h : Stp ρ w nx ρ' w' nx' lo) (hf : ∀ id, nx ≤ id → ρ id = none) : ρ.le ρ' := fun id pl e => by
  rcases Nat.lt_or_ge id nx with hid | hid
  · rw [h.ext id hid]; exact e
  · rw [hf id hid] at e; cases e
end Go.Ev
end

section
/-
  The heap's laws: a new block, a block written, a block moved; what a leaf operation is asked.
-/
namespace Go.Ev
section
variable {P : Program} {τ : Tab} {ρ : Ren} {H : Nat → Option HB} {nx : Nat} {w : World}

def Ren.upd (ρ : Ren) (i : Nat) (pl : Pl) : Ren := fun j => if j = i then some pl else ρ j
def updH (H : Nat → Option HB) (i : Nat) (hb : HB) : Nat → Option HB := fun j => if j = i then some hb else H j
theorem get_ins_upd (t : T HB) (i : Nat) (hb : HB) : (t.ins i hb).get = updH t.get i hb := funext fun j => T.get_ins hb t i j

theorem Ren.le_upd (hf : ρ nx = none) (pl : Pl) : ρ.le (ρ.upd nx pl) := fun id pl' e => by
  unfold Ren.upd
  split
  · rename_i h; subst h; rw [hf] at e; cases e
  · exact e
theorem Ren.upd_same (pl : Pl) (i : Nat) : ρ.upd i pl i = some pl := by simp [Ren.upd]

/-- The blocks that stood are as they were; a block more. -/
theorem Hok.alloc (hok : Hok P τ ρ H nx w) (lo : WS) (o : Obj) (hb : HB) (s : Nat)
    (hBR : BR P (ρ.upd nx ⟨w.heap.size, 0, s⟩) ⟨w.heap.size, 0, s⟩ (w.alloc o) hb) (hng : τ.ng ≤ nx) :
    Hok P τ (ρ.upd nx ⟨w.heap.size, 0, s⟩) (updH H nx hb) (nx + 1) (w.alloc o) ∧ Stp ρ w nx (ρ.upd nx ⟨w.heap.size, 0, s⟩) (w.alloc o) (nx + 1) lo := by
  have hle := Ren.le_upd (hok.fresh nx (Nat.le_refl _)) ⟨w.heap.size, 0, s⟩
  have hsz : (w.alloc o).heap.size = w.heap.size + 1 := World.size_alloc _ _
  have hold : ∀ b, b < w.heap.size → (w.alloc o).heap[b]? = w.heap[b]? := fun b hb => by
    show (w.heap.push o)[b]? = _
    rw [Array.getElem?_push, if_neg (Nat.ne_of_lt hb)]
  refine ⟨⟨fun id h => ?_, fun id pl hb' e eH => ?_, fun id pl e => ?_, fun i j pi pj hi ei ej eHi hij hb' => ?_, fun g hg => ?_⟩, ⟨fun id h => ?_, by rw [hsz]; omega, fun b hb' _ => hold b hb', fun id pl hid e => ?_, Nat.le_succ _, rfl, rfl, rfl, Nat.le_refl _⟩⟩
  · unfold Ren.upd; rw [if_neg (by omega)]; exact hok.fresh id (by omega)
  · unfold Ren.upd at e; unfold updH at eH
    by_cases h : id = nx
    · rw [if_pos h] at e eH; cases e; cases eH; exact hBR
    · rw [if_neg h] at e eH
      exact (hok.hr id pl hb' e eH).mono hle (hold _ (hok.bnd id pl e))
  · unfold Ren.upd at e; rw [hsz]
    by_cases h : id = nx
    · rw [if_pos h] at e; cases e; exact Nat.lt_succ_self _
    · rw [if_neg h] at e; have := hok.bnd id pl e; omega
  · unfold Ren.upd at ei ej; unfold updH at eHi
    by_cases h1 : i = nx
    · by_cases h2 : j = nx
      · omega
      · rw [if_pos h1] at ei; rw [if_neg h2] at ej; cases ei; have := hok.bnd j pj ej; simp at hb'; omega
    · by_cases h2 : j = nx
      · rw [if_neg h1] at ei; rw [if_pos h2] at ej; cases ej; have := hok.bnd i pi ei; simp at hb'; omega
      · rw [if_neg h1] at ei eHi; rw [if_neg h2] at ej; exact hok.ord i j pi pj hi ei ej eHi hij hb'
  · unfold Ren.upd; rw [if_neg (by omega)]; exact hok.glob g hg
  · unfold Ren.upd; rw [if_neg (by omega)]
  · unfold Ren.upd at e
    by_cases h : id = nx
    · rw [if_pos h] at e; cases e; exact .inl (Nat.le_refl _)
    · rw [if_neg h, hok.fresh id hid] at e; cases e

/-- One block is written. -/
theorem Hok.write (hok : Hok P τ ρ H nx w) {id : Nat} {pl : Pl} {hb hb' : HB} {w' : World} (e : ρ id = some pl) (eH : H id = some hb) (hl : hb.live = true)
    (hsz : w'.heap.size = w.heap.size) (hoth : ∀ b, b ≠ pl.b → w'.heap[b]? = w.heap[b]?) (hBR : BR P ρ pl w' hb') (hos : w'.os = w.os) (hout : w'.output = w.output) (htape : w'.tape = w.tape) {lo : WS} (hlo : lo.has id) (hdr : w.drawn ≤ w'.drawn) :
    Hok P τ ρ (updH H id hb') nx w' ∧ Stp ρ w nx ρ w' nx lo := by
  refine ⟨⟨hok.fresh, fun i pi hi ei eHi => ?_, fun i pi ei => by rw [hsz]; exact hok.bnd i pi ei, fun i j pi pj hi ei ej eHi hij hb'' => ?_, hok.glob⟩,
    ⟨fun _ _ => rfl, Nat.le_of_eq hsz.symm, fun b _ hh => hoth b fun h => hh id pl hlo e h.symm, fun i pi hi ei => (by rw [hok.fresh i hi] at ei; cases ei), Nat.le_refl _, hos, hout, htape, hdr⟩⟩
  · unfold updH at eHi
    by_cases h : i = id
    · subst h; rw [if_pos rfl] at eHi; cases eHi; rw [e] at ei; cases ei; exact hBR
    · rw [if_neg h] at eHi
      cases hlv : hi.live with
      | false => cases hi <;> simp [HB.live] at hlv; trivial
      | true => exact (hok.hr i pi hi ei eHi).mono (Ren.le_refl _) (hoth _ fun hb'' => h (hok.inj i id pi pl hi hb ei e eHi eH hlv hl hb''))
  · unfold updH at eHi
    by_cases h1 : i = id
    · subst h1; have := hok.ord i j pi pj hb ei ej eH hij hb''; rw [this] at hl; cases hl
    · rw [if_neg h1] at eHi; exact hok.ord i j pi pj hi ei ej eHi hij hb''

/-- A block is given up. -/
theorem Hok.kill (hok : Hok P τ ρ H nx w) (id : Nat) : Hok P τ ρ (updH H id .dead) nx w := by
  refine ⟨hok.fresh, fun i pi hi ei eHi => ?_, hok.bnd, fun i j pi pj hi ei ej eHi hij hb'' => ?_, hok.glob⟩
  · unfold updH at eHi
    by_cases h : i = id
    · rw [if_pos h] at eHi; cases eHi; trivial
    · rw [if_neg h] at eHi; exact hok.hr i pi hi ei eHi
  · unfold updH at eHi
    by_cases h1 : i = id
    · rw [if_pos h1] at eHi; cases eHi; rfl
    · rw [if_neg h1] at eHi; exact hok.ord i j pi pj hi ei ej eHi hij hb''

/-- A block is given up; its place (from a cell of it on) is a new block's. -/
theorem Hok.move (hok : Hok P τ ρ H nx w) {id : Nat} {pl pl' : Pl} {hb hb' : HB} {w' : World} (e : ρ id = some pl) (eH : H id = some hb) (hl : hb.live = true) (hpl : pl'.b = pl.b)
    (hsz : w'.heap.size = w.heap.size) (hoth : ∀ b, b ≠ pl.b → w'.heap[b]? = w.heap[b]?) (hBR : BR P (ρ.upd nx pl') pl' w' hb') (hos : w'.os = w.os) (hout : w'.output = w.output) (htape : w'.tape = w.tape)
    {lo : WS} (hlo : lo.has id) (hng : τ.ng ≤ nx) (hdr : w.drawn ≤ w'.drawn) :
    Hok P τ (ρ.upd nx pl') (updH (updH H id .dead) nx hb') (nx + 1) w' ∧ Stp ρ w nx (ρ.upd nx pl') w' (nx + 1) lo := by
  have hle := Ren.le_upd (hok.fresh nx (Nat.le_refl _)) pl'
  have hidn : id < nx := Nat.lt_of_not_le fun h => by rw [hok.fresh id h] at e; cases e
  refine ⟨⟨fun i h => ?_, fun i pi hi ei eHi => ?_, fun i pi ei => ?_, fun i j pi pj hi ei ej eHi hij hb'' => ?_, fun g hg => ?_⟩,
    ⟨fun i h => ?_, Nat.le_of_eq hsz.symm, fun b _ hh => hoth b fun h => hh id pl hlo e h.symm, fun i pi hi ei => ?_, Nat.le_succ _, hos, hout, htape, hdr⟩⟩
  · unfold Ren.upd; rw [if_neg (by omega)]; exact hok.fresh i (by omega)
  · unfold Ren.upd at ei; unfold updH at eHi
    by_cases h : i = nx
    · rw [if_pos h] at ei eHi; cases ei; cases eHi; exact hBR
    · rw [if_neg h] at ei eHi
      by_cases h2 : i = id
      · rw [if_pos h2] at eHi; cases eHi; trivial
      · rw [if_neg h2] at eHi
        cases hlv : hi.live with
        | false => cases hi <;> simp [HB.live] at hlv; trivial
        | true => exact (hok.hr i pi hi ei eHi).mono hle (hoth _ fun hb'' => h2 (hok.inj i id pi pl hi hb ei e eHi eH hlv hl hb''))
  · unfold Ren.upd at ei; rw [hsz]
    by_cases h : i = nx
    · rw [if_pos h] at ei; cases ei; rw [hpl]; exact hok.bnd id pl e
    · rw [if_neg h] at ei; exact hok.bnd i pi ei
  · unfold Ren.upd at ei ej; unfold updH at eHi
    by_cases h1 : i = nx
    · by_cases h2 : j = nx
      · omega
      · rw [if_neg h2] at ej; have : j < nx := Nat.lt_of_not_le fun hh => by rw [hok.fresh j hh] at ej; cases ej
        omega
    · rw [if_neg h1] at ei eHi
      by_cases h3 : i = id
      · rw [if_pos h3] at eHi; cases eHi; rfl
      · rw [if_neg h3] at eHi
        by_cases h2 : j = nx
        · rw [if_pos h2] at ej; cases ej
          rcases Nat.lt_or_gt_of_ne h3 with hlt | hgt
          · exact hok.ord i id pi pl hi ei e eHi hlt (hb''.trans hpl)
          · have := hok.ord id i pl pi hb e ei eH hgt (hb''.trans hpl).symm; rw [this] at hl; cases hl
        · rw [if_neg h2] at ej; exact hok.ord i j pi pj hi ei ej eHi hij hb''
  · unfold Ren.upd; rw [if_neg (by omega)]; exact hok.glob g hg
  · unfold Ren.upd; rw [if_neg (by omega)]
  · unfold Ren.upd at ei
    by_cases h : i = nx
    · rw [if_pos h] at ei; cases ei; exact .inr ⟨id, pl, hlo, e, hpl.symm⟩
    · rw [if_neg h, hok.fresh i hi] at ei; cases ei
end

/-- What the machine is told of the program is true. -/
structure TabOk (P : Program) (τ : Tab) : Prop where
  fn : ∀ f x, τ.fn.get f = some x → P.funcs[f]? = some x ∧ (x.body.isSome = true → (x.name == "runtime.NumGoroutine") = false)
  ds : ∀ t d, τ.ds.get t = some d → P.underlying t = some d
  inf : ∀ t i, τ.inf.get t = some i → P.info? t = some i
  eq : ∀ t, τ.eqOk t = true → P.stoodInHeld t = false ∧ P.eqGuardType P.depth t = false
  mixed : P.follows .mixedOrders = true

/-- The heap's trie in the place of a function. -/
abbrev Hkt (P : Program) (τ : Tab) (ρ : Ren) (h : Hp) (w : World) : Prop := Hok P τ ρ h.t.get h.nx w ∧ τ.ng ≤ h.nx

/-- A leaf operation does what the abstract machine says. -/
def Goes (P : Program) (τ : Tab) (ρ : Ren) (h : Hp) (w : World) (s : Sem Next) (v : Value) (h' : Hp) : Prop :=
  ∃ n w' v' ρ', s.run P w = .ok n w' ∧ (n = .value v' ∨ (n = .skip ∧ v' = undef)) ∧ VR ρ' v v' ∧ Hkt P τ ρ' h' w' ∧ Stp ρ w h.nx ρ' w' h'.nx h'.lo ∧ h'.lo ≤ h.lo

section
variable {P : Program} {τ : Tab} {ρ : Ren} {h : Hp} {w : World}
theorem Goes.pure (hk : Hkt P τ ρ h w) {s : Sem Next} {v v' : Value} (hs : s.run P w = .ok (.value v') w) (hv : VR ρ v v') : Goes P τ ρ h w s v h :=
  ⟨_, w, v', ρ, hs, .inl rfl, hv, hk, Stp.refl ρ w h.nx h.lo hk.1.fresh, WS.le_refl _⟩

theorem Hp.low_le (h : Hp) (i : Nat) : h.low i ≤ h.lo ∧ (h.low i).has i := lower_le h.lo i

/-- A new block. -/
theorem Hkt.alloc (hk : Hkt P τ ρ h w) (o : Obj) (hb : HB) (s : Nat)
    (hBR : BR P (ρ.upd h.nx ⟨w.heap.size, 0, s⟩) ⟨w.heap.size, 0, s⟩ (w.alloc o) hb) :
    Hkt P τ (ρ.upd h.nx ⟨w.heap.size, 0, s⟩) (h.new hb) (w.alloc o) ∧ Stp ρ w h.nx (ρ.upd h.nx ⟨w.heap.size, 0, s⟩) (w.alloc o) (h.new hb).nx (h.new hb).lo := by
  obtain ⟨h1, h2⟩ := hk.1.alloc h.lo o hb s hBR hk.2
  refine ⟨⟨?_, Nat.le_succ_of_le hk.2⟩, h2⟩
  show Hok P τ _ (h.t.ins h.nx hb).get (h.nx + 1) _
  rw [get_ins_upd]; exact h1

theorem Hkt.write (hk : Hkt P τ ρ h w) {id : Nat} {pl : Pl} {hb hb' : HB} {w' : World} (e : ρ id = some pl) (eH : h.t.get id = some hb) (hl : hb.live = true)
    (hsz : w'.heap.size = w.heap.size) (hoth : ∀ b, b ≠ pl.b → w'.heap[b]? = w.heap[b]?) (hBR : BR P ρ pl w' hb') (hos : w'.os = w.os) (hout : w'.output = w.output) (htape : w'.tape = w.tape) (hdr : w.drawn ≤ w'.drawn := by exact Nat.le_refl _) :
    Hkt P τ ρ (h.put id hb') w' ∧ Stp ρ w h.nx ρ w' (h.put id hb').nx (h.put id hb').lo := by
  obtain ⟨h1, h2⟩ := hk.1.write e eH hl hsz hoth hBR hos hout htape (h.low_le id).2 hdr
  refine ⟨⟨?_, hk.2⟩, h2⟩
  show Hok P τ _ (h.t.ins id hb').get h.nx _
  rw [get_ins_upd]; exact h1
end
end Go.Ev
end

section
/-
  The leaf operations do what the abstract machine says: values, loads, stores, new rows.
-/
namespace Go.Ev
section
variable {P : Program} {τ : Tab} {ρ : Ren} {h : Hp} {w : World}

theorem run_underlying {t : TypeId} {d : TypeDesc} (hd : P.underlying t = some d) (w : World) : (underlying t).run P w = .ok d w := by
  simp [underlying, hd]
theorem run_typeInfo {t : TypeId} {i : TypeInfo} (hi : P.info? t = some i) (w : World) : (typeInfo t).run P w = .ok i w := by
  simp [typeInfo, hi]
theorem run_sizeOf {t : TypeId} {i : TypeInfo} (hi : P.info? t = some i) (w : World) : (sizeOf t).run P w = .ok i.size w := by
  simp [sizeOf, run_typeInfo hi]
theorem run_zeroValue {t : TypeId} {i : TypeInfo} {z : Value} (hi : P.info? t = some i) (hz : i.zero = some z) (w : World) : (zeroValue t).run P w = .ok z w := by
  simp [zeroValue, run_typeInfo hi, hz]
theorem run_isAgg {t : TypeId} {d : TypeDesc} (hd : P.underlying t = some d) (w : World) : (isAgg t).run P w = .ok (isAggD d) w := by
  simp only [isAgg, Sem.run_bind, run_underlying hd, Result.andThen_ok]
  cases d <;> rfl

theorem zeroV_run (T : TabOk P τ) {t : TypeId} {z : Value} (hz : zeroV τ t = some z) : (∀ w, (zeroValue t).run P w = .ok z w) ∧ plainV z = true := by
  unfold zeroV at hz
  cases hi : τ.inf.get t with
  | none => simp [hi] at hz
  | some i =>
    simp only [hi] at hz
    cases hzz : i.zero with
    | none => simp [hzz] at hz
    | some z' =>
      simp only [hzz] at hz
      cases hp : plainV z' with
      | false => simp [hp] at hz
      | true =>
        simp only [hp, cond_true, Option.some.injEq] at hz
        subst hz
        exact ⟨fun w => run_zeroValue (T.inf t i hi) hzz w, hp⟩

def Fok (ρ : Ren) (fr : Fr) (a : Act) : Prop := TR ρ fr.tm fr.sz a.tmps

theorem ev_sound (hk : Hkt P τ ρ h w) {fr : Fr} {a : Act} (hf : Fok ρ fr a) {x : Operand} {v : Value} (hx : ev τ fr x = some v) : VR ρ v (a.eval x) := by
  cases x with
  | tmp t =>
    obtain ⟨v', h1, h2⟩ := hf.2 t v hx
    simpa [Act.eval, h1] using h2
  | const c =>
    simp only [ev] at hx
    cases hp : plainV c with
    | false => simp [hp] at hx
    | true => simp only [hp, cond_true, Option.some.injEq] at hx; subst hx; exact VR.plain_refl hp
  | global g =>
    simp only [ev] at hx
    cases hp : Nat.blt g τ.ng with
    | false => simp [hp] at hx
    | true =>
      simp only [hp, cond_true, Option.some.injEq] at hx
      subst hx
      have hg := hk.1.glob g (by simpa [Nat.blt_eq] using hp)
      have := VR.ptr (off := 0) hg
      simpa [ptr, Act.eval] using this
  | func f => simp only [ev, Option.some.injEq] at hx; subst hx; exact .func (.func f) .nil .nil

theorem evs_sound (hk : Hkt P τ ρ h w) {fr : Fr} {a : Act} (hf : Fok ρ fr a) : ∀ {xs : List Operand} {vs : List Value}, evs τ fr xs = some vs → LR ρ vs (xs.map a.eval)
  | [], vs, hx => by simp [evs] at hx; subst hx; exact .nil
  | x :: xs, vs, hx => by
    simp only [evs] at hx
    split at hx
    · rename_i v vs' h1 h2
      simp at hx; subst hx
      exact .cons (ev_sound hk hf h1) (evs_sound hk hf h2)
    · cases hx

theorem evo_sound (hk : Hkt P τ ρ h w) {fr : Fr} {a : Act} (hf : Fok ρ fr a) {x : Option Operand} {v : Option Value} (hx : evo τ fr x = some v) :
    (x = none ∧ v = none) ∨ ∃ o u, x = some o ∧ v = some u ∧ VR ρ u (a.eval o) := by
  cases x with
  | none => simp [evo] at hx; exact .inl ⟨rfl, hx.symm⟩
  | some o =>
    simp only [evo] at hx
    cases ho : ev τ fr o with
    | none => simp [ho] at hx
    | some u => simp [ho] at hx; subst hx; exact .inr ⟨o, u, rfl, rfl, ev_sound hk hf ho⟩

/-! ### rows -/
theorem getElem?_alloc_new (w : World) (o : Obj) : (w.alloc o).heap[w.heap.size]? = some o := by
  show (w.heap.push o)[w.heap.size]? = _
  simp

theorem BR.row {e : TypeId} {vs vs' rest : List Value} {ρ' : Ren} (hl : LR ρ' vs vs') (s : Nat) (hs : ∀ i, P.info? e = some i → s * i.size ≤ rest.length) (lo hi : Nat) (fz : Nat × Nat)
    (hfz : fz.1 = fz.2 ∨ (lo = 1 ∧ hi = 0 ∧ vs'.length + rest.length ≤ fz.1) ∨ (lo ≤ fz.1 ∧ fz.1 ≤ fz.2 ∧ fz.2 ≤ hi)) (x : Bool) (hx : x = true → rest = []) (w : World) :
    BR P ρ' ⟨w.heap.size, 0, s⟩ (w.alloc (.cells ⟨vs' ++ rest⟩ e fz)) (.cells (T.laid vs 0 .nil) vs.length e lo hi x) := by
  have hlen := hl.length
  refine ⟨⟨vs' ++ rest⟩, fz, getElem?_alloc_new w _, ?_, fun i hi' => ?_, fun i v hv => ?_, ?_, fun e => ⟨rfl, by simp [hx e, hlen]⟩⟩
  · simp; omega
  · have := hs i hi'; simp; omega
  · rw [T.get_laid] at hv
    by_cases hi' : 0 ≤ i ∧ i < 0 + vs.length
    · rw [if_pos hi'] at hv
      simp only [Nat.sub_zero] at hv
      obtain ⟨v', h1, h2⟩ := hl.get hv
      refine ⟨by omega, v', ?_, h2⟩
      have : i < vs'.length := by omega
      simp only [Nat.zero_add, List.getElem?_toArray]
      rw [List.getElem?_append_left this, h1]
    · rw [if_neg hi', T.get_nil] at hv; cases hv
  · simpa using hfz

theorem rowA_new (hk : Hkt P τ ρ h w) (e : TypeId) {vs vs' rest : List Value} (hl : LR ρ vs vs') (s : Nat) (hs : ∀ i, P.info? e = some i → s * i.size ≤ rest.length) :
    Hkt P τ (ρ.upd h.nx ⟨w.heap.size, 0, s⟩) (rowA h e vs) (w.alloc (.cells ⟨vs' ++ rest⟩ e)) ∧
    Stp ρ w h.nx (ρ.upd h.nx ⟨w.heap.size, 0, s⟩) (w.alloc (.cells ⟨vs' ++ rest⟩ e)) (rowA h e vs).nx (rowA h e vs).lo := by
  have hle := Ren.le_upd (hk.1.fresh h.nx (Nat.le_refl _)) ⟨w.heap.size, 0, s⟩
  exact hk.alloc (.cells ⟨vs' ++ rest⟩ e) _ s (BR.row (hl.mono hle) s hs 0 0 (0, 0) (.inl rfl) false (by simp) w)
theorem row_new (hk : Hkt P τ ρ h w) (e : TypeId) {vs vs' : List Value} (hl : LR ρ vs vs') :
    Hkt P τ (ρ.upd h.nx ⟨w.heap.size, 0, 0⟩) (rowOf h e vs) (w.alloc (.cells ⟨vs'⟩ e)) ∧
    Stp ρ w h.nx (ρ.upd h.nx ⟨w.heap.size, 0, 0⟩) (w.alloc (.cells ⟨vs'⟩ e)) (rowOf h e vs).nx (rowOf h e vs).lo := by
  have hle := Ren.le_upd (hk.1.fresh h.nx (Nat.le_refl _)) ⟨w.heap.size, 0, 0⟩
  have := hk.alloc (.cells ⟨vs' ++ []⟩ e) _ 0 (BR.row (hl.mono hle) 0 (fun _ _ => by simp) 0 0 (0, 0) (.inl rfl) true (fun _ => rfl) w)
  unfold rowOf
  simpa using this

theorem newVar_goes (hk : Hkt P τ ρ h w) (t : TypeId) {v v' : Value} (hv : VR ρ v v') {s : Sem Next}
    (hs : s.run P w = .ok (.value (.pointer (some ⟨w.heap.size, 0, none⟩))) (w.alloc (.cells v'.cells t))) : Goes P τ ρ h w s (ptr h.nx 0) (rowOf h t (cellsOfV v)) := by
  obtain ⟨h1, h2⟩ := row_new hk t hv.cellsOf
  refine ⟨_, _, _, _, hs, .inl rfl, ?_, h1, h2, WS.le_refl _⟩
  have := VR.ptr (ρ := ρ.upd h.nx ⟨w.heap.size, 0, 0⟩) (id := h.nx) (off := 0) (Ren.upd_same _ _)
  simpa [ptr] using this

theorem box_sound (hk : Hkt P τ ρ h w) (t : TypeId) {v v' : Value} (hv : VR ρ v v') {v1 : Value} {h' : Hp} (hb : boxB τ t v h = some (v1, h')) {s : Sem Next}
    (hs : s.run P w = .ok (.value (.pointer (some ⟨w.heap.size, 0, none⟩))) (w.alloc (.cells v'.cells t))) : Goes P τ ρ h w s v1 h' := by
  simp only [boxB, Option.some.injEq, Prod.mk.injEq] at hb
  obtain ⟨rfl, rfl⟩ := hb
  exact newVar_goes hk t hv hs

/-! ### loads -/
theorem gather_get (c : T Value) : ∀ (n off : Nat) (l : List Value), gather c n off = some l → l.length = n ∧ ∀ (j : Nat) v, l[j]? = some v → c.get (off + j) = some v := by
  intro n
  induction n with
  | zero => intro off l hl; cases hl; exact ⟨rfl, fun j v hv => by simp at hv⟩
  | succ n ih =>
    intro off l hl
    change (match c.get off with
      | some v => (match gather c n (Nat.succ off) with | some l => some (v :: l) | none => none)
      | none => none) = some l at hl
    cases hc : c.get off with
    | none => rw [hc] at hl; cases hl
    | some v =>
      rw [hc] at hl
      simp only [] at hl
      cases hg : gather c n (Nat.succ off) with
      | none => rw [hg] at hl; cases hl
      | some l' =>
        rw [hg] at hl
        simp only [Option.some.injEq] at hl
        subst hl
        obtain ⟨h1, h2⟩ := ih _ _ hg
        refine ⟨by simp [h1], fun j u hu => ?_⟩
        cases j with
        | zero => simp at hu; subst hu; exact hc
        | succ j => simp at hu; have := h2 j u hu; rw [show off + (j + 1) = Nat.succ off + j by omega]; exact this

/-- The cells of a block that a place holds. -/
theorem BR.cell {pl : Pl} {c : T Value} {n : Nat} {e : TypeId} {lo hi : Nat} {x : Bool} (hb : BR P ρ pl w (.cells c n e lo hi x)) {i : Nat} {v : Value} (hv : c.get i = some v) :
    ∃ v', w.cell? ⟨pl.b, pl.o + i, none⟩ = some v' ∧ VR ρ v v' := by
  obtain ⟨C, fz, h1, h2, h3, h4, h5, h6⟩ := hb
  obtain ⟨_, v', e1, e2⟩ := h4 i v hv
  exact ⟨v', by simp [World.cell?, h1, e1], e2⟩

theorem addr_add (b o : Nat) (n : Nat) : (Addr.add ⟨b, o, none⟩ n) = ⟨b, o + n, none⟩ := by
  unfold Addr.add
  split
  · rename_i e; subst e; rfl
  · rfl

/-- A row of cells that the machine gathers is loaded by the model. -/
theorem gather_run {pl : Pl} {c : T Value} {n : Nat} {e : TypeId} {lo hi : Nat} {x : Bool} (hb : BR P ρ pl w (.cells c n e lo hi x)) {k off : Nat} {l : List Value} (hg : gather c k off = some l) :
    ∃ l', LR ρ l l' ∧ (loadCells ⟨pl.b, pl.o + off, none⟩ k).run P w = .ok ⟨l'⟩ w ∧ (∀ j u, l'[j]? = some u → w.cell? ⟨pl.b, pl.o + off + j, none⟩ = some u) := by
  obtain ⟨hlen, hget⟩ := gather_get c k off l hg
  have : ∃ l', LR ρ l l' ∧ ∀ j u, l'[j]? = some u → w.cell? ⟨pl.b, pl.o + off + j, none⟩ = some u := by
    clear hg hlen
    induction l generalizing off with
    | nil => exact ⟨[], .nil, fun j u hu => by simp at hu⟩
    | cons v l ih =>
      obtain ⟨v', e1, e2⟩ := hb.cell (hget 0 v rfl)
      obtain ⟨l', h1, h2⟩ := ih (off := off + 1) (fun j u hu => by rw [show off + 1 + j = off + (j + 1) by omega]; exact hget (j + 1) u (by simpa using hu))
      refine ⟨v' :: l', .cons e2 h1, fun j u hu => ?_⟩
      cases j with
      | zero => simp at hu; subst hu; exact e1
      | succ j => simp at hu; have := h2 j u hu; rw [show pl.o + off + (j + 1) = pl.o + (off + 1) + j by omega]; exact this
  obtain ⟨l', h1, h2⟩ := this
  refine ⟨l', h1, ?_, h2⟩
  have hl' : l'.length = k := by rw [← h1.length, hlen]
  rw [← hl']
  exact run_loadCells_list w _ l' fun j u hu => by rw [addr_add]; exact h2 j u hu

theorem loadAt_sound (T : TabOk P τ) {pl : Pl} {hb : HB} {id off : Nat} {t : TypeId} {v : Value} (e : ρ id = some pl) (eH : h.t.get id = some hb) (hbr : BR P ρ pl w hb)
    (hl : loadAtB τ t h id off = some v) : ∃ v', (loadVar t ⟨pl.b, pl.o + off, none⟩).run P w = .ok v' w ∧ VR ρ v v' := by
  unfold loadAtB at hl
  rw [eH] at hl
  cases hb with
  | cells c n el lo hi x =>
    cases hd : τ.ds.get t with
    | none => simp [hd] at hl
    | some d =>
      simp only [hd] at hl
      simp only [loadVar, Sem.run_bind, run_isAgg (T.ds t d hd), Result.andThen_ok]
      cases ha : isAggD d with
      | true =>
        simp only [ha, cond_true] at hl
        cases hi' : τ.inf.get t with
        | none => simp [hi'] at hl
        | some i =>
          simp only [hi'] at hl
          cases hg : gather c i.size off with
          | none => simp [hg] at hl
          | some l =>
            simp only [hg, Option.some.injEq] at hl
            subst hl
            obtain ⟨l', h1, h2, _⟩ := gather_run hbr hg
            exact ⟨.agg ⟨l'⟩, by simp [run_sizeOf (T.inf t i hi'), h2], .agg h1⟩
      | false =>
        simp only [ha, cond_false] at hl
        obtain ⟨v', e1, e2⟩ := hbr.cell hl
        exact ⟨v', by simp [e1], e2⟩
  | _ => simp at hl

theorem loadAt_hk (T : TabOk P τ) (hk : Hkt P τ ρ h w) {pl : Pl} {id off : Nat} {t : TypeId} {v : Value} (e : ρ id = some pl)
    (hl : loadAtB τ t h id off = some v) : ∃ v', (loadVar t ⟨pl.b, pl.o + off, none⟩).run P w = .ok v' w ∧ VR ρ v v' := by
  cases eH : h.t.get id with
  | none => unfold loadAtB at hl; simp [eH] at hl
  | some hb => exact loadAt_sound T e eH (hk.1.hr id pl hb e eH) hl

end
end Go.Ev
end
