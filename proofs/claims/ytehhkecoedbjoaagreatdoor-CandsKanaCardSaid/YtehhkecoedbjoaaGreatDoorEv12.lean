/-
  The evaluator of closed runs (a part): EvO, EvS27, EvS28.
-/
import Derived.Test.YtehhkecoedbjoaaGreatDoorEv1
import Derived.Test.YtehhkecoedbjoaaGreatDoorEv11
import Derived.Shelf.SlSortCmp.WholeK
set_option linter.unusedVariables false
set_option linter.unusedSimpArgs false
set_option linter.unusedSectionVars false
section
/-
  What functions of the library are summed up to.
-/
namespace Go.Ev

/-- One comparison, carried out on a heap of which nothing is known. -/
noncomputable def cmpV (call : CallF) (g : FuncId) (nx : Nat) (a b : List Value) : Option Int :=
  match call (.func g) [.agg ⟨a⟩, .agg ⟨b⟩] ⟨.nil, nx, .no⟩ (fun v h => some [.val v h]) (fun _ _ => none) with
  | some [.val (.int .i64 c) h'] => bif h'.lo.noOld nx then some c else none
  | _ => none
def isNeg : Int → Bool
  | .negSucc _ => true
  | _ => false
noncomputable def insV (cmp : List Value → List Value → Option Int) (x : List Value) : List (List Value) → Option (List (List Value))
  | [] => some [x]
  | y :: l => match cmp x y with
    | some c => bif isNeg c then some (x :: y :: l) else (match insV cmp x l with | some l' => some (y :: l') | none => none)
    | none => none
noncomputable def sortV (cmp : List Value → List Value → Option Int) : List (List Value) → Option (List (List Value))
  | [] => some []
  | x :: l => match sortV cmp l with
    | some l' => insV cmp x l'
    | none => none
/-- x comes before each of the list, and no other way round. -/
noncomputable def aheadV (cmp : List Value → List Value → Option Int) (x : List Value) : List (List Value) → Bool
  | [] => true
  | y :: l => match cmp x y, cmp y x with
    | some c, some d => isNeg c && !isNeg d && aheadV cmp x l
    | _, _ => false
noncomputable def risesV (cmp : List Value → List Value → Option Int) : List (List Value) → Bool
  | [] => true
  | x :: l => (match cmp x x with | some c => !isNeg c | none => false) && aheadV cmp x l && risesV cmp l
/-- Is the one list the other in another order? -/
def sameL : List Value → List Value → Bool := fun a b => decide (a.length = b.length)
noncomputable def hasBody (τ : Tab) (g : FuncId) : Bool := match τ.fn.get g with | some fn => fn.body.isSome | none => false

/-- slices.SortFunc, at a slice of structs of type e whose order is not known. -/
noncomputable def sortB (τ : Tab) (e : TypeId) (call : CallF) (args : List Value) (h : Hp) : Res :=
  match args with
  | [.slice (some ⟨id, 0, none⟩) len _, .func (.func g) ⟨[]⟩ ⟨[]⟩] => (match h.t.get id, τ.inf.get e with
    | some (.ucells gs e'), some i => bif Nat.beq e' e && Nat.beq gs.length len && Nat.blt 0 len && Nat.ble len 1000000 && hasBody τ g && gs.all (fun x => Nat.beq x.length i.size) then
        (match sortV (cmpV call g h.nx) gs with
        | some sg => bif risesV (cmpV call g h.nx) sg then some (.tuple #[], h.put id (.cells (T.laid sg.flatten 0 .nil) sg.flatten.length e 0 0 false)) else none
        | none => none) else none
    | _, _ => none)
  | _ => none

/-! ### loops over maps -/
/-- The entries' stamps ascend, from lo on, and lie below ck. -/
def ascB (ck : Nat) : Nat → List MapEntry → Bool
  | _, [] => true
  | lo, e :: l => Nat.ble lo e.born && Nat.blt e.born ck && ascB ck (Nat.succ e.born) l
def strs : List (Value × Value) → Option (List (List UInt8))
  | [] => some []
  | (.string s, _) :: l => (match strs l with | some r => some (s.data.toList :: r) | none => none)
  | _ => none
def distS : List (List UInt8) → Bool
  | [] => true
  | a :: l => l.all (fun b => !eqS a b) && distS l
def kvOf (e : MapEntry) : Value × Value := (e.key, e.val)
noncomputable def absentB (fr : Fr) (W : List Tmp) : Bool := W.all fun t => (match fr.tm.get t with | none => true | some _ => false) && Nat.blt t fr.sz
/-- What kana.Full's loop lays into its map for an entry: the value is the key, the character the value. -/
def imgF : MapEntry → Option (Value × Value)
  | ⟨.int _ n, .string s, _⟩ => some (.string s, .string (Utf8.encode n))
  | _ => none
def imgsF : List MapEntry → Option (List (Value × Value))
  | [] => some []
  | e :: l => (match imgF e, imgsF l with | some p, some r => some (p :: r) | _, _ => none)
/-- kana.Full: 'for c, h := range forms() { f[h] = string(c) }'. ti: the iterator; tf: f; W: what the loop lays into. -/
noncomputable def hookFull (ti tf : Tmp) (W : List Tmp) : HookF := fun fr h =>
  match fr.tm.get ti, fr.tm.get tf with
  | some (.pointer (some ⟨r, 0, none⟩)), some (.map (some idf)) => (match h.t.get r, h.t.get idf with
    | some (.miter (some m) since [] last), some (.map fs ckf) => (match h.t.get m with
      | some (.map es ck) => (match imgsF es with
        | some im => (match strs (fs.map kvOf ++ im) with
          | some ks => bif !(Nat.beq m idf) && Nat.ble ck since && Nat.ble es.length 100000 && ascB ck 0 es && distS ks && absentB fr W && (fs.all fun e => plainV e.key && plainV e.val) then
              some (fr, (h.put r .dead).put idf (.umap (fs.map kvOf ++ im))) else none
          | none => none)
        | none => none)
      | _ => none)
    | _, _ => none)
  | _, _ => none

/-- What is collected of an entry. -/
abbrev Img := MapEntry → Option (List Value)
def imgsC (f : Img) : List MapEntry → Option (List (List Value))
  | [] => some []
  | e :: l => (match f e, imgsC f l with | some g, some r => some (g :: r) | _, _ => none)
/-- The entry's value, a struct of k plain cells. -/
def imgVal (k : Nat) : Img := fun e => match e.val with
  | .agg ⟨cs⟩ => bif Nat.beq cs.length k && cs.all plainCell then some cs else none
  | _ => none
/-- The entry's key, a struct of k plain cells, with one cell replaced by the value. -/
def imgKey (k off : Nat) : Img := fun e => match e.key with
  | .agg ⟨cs⟩ => bif Nat.beq cs.length k && cs.all plainCell && Nat.blt off k && plainCell e.val then some (cs.set off e.val) else none
  | _ => none
/-- Is nothing known of the blocks from number id on, as many as n? -/
noncomputable def noneB (t : T HB) : Nat → Nat → Bool
  | _, 0 => true
  | id, n + 1 => (match t.get id with | none => true | some _ => false) && noneB t (Nat.succ id) n
/-- 'for .. := range m { out = append(out, ..) }': ti: the iterator; tout: out; W: what the loop lays into; e: the elements' type, whose size k and bytes are known. -/
noncomputable def hookCollect (τ : Tab) (f : Img) (e : TypeId) (ti tout : Tmp) (W : List Tmp) : HookF := fun fr h =>
  match fr.tm.get ti, fr.tm.get tout with
  | some (.pointer (some ⟨r, 0, none⟩)), some (.slice none 0 0) => (match h.t.get r with
    | some (.miter (some m) since [] last) => (match h.t.get m with
      | some (.map (e0 :: es) ck) => (match imgsC f (e0 :: es), τ.inf.get e with
        | some gs, some i => bif Nat.ble ck since && Nat.ble gs.length 100000 && Nat.ble (100000 * i.bytes) 1099511627776 && ascB ck 0 (e0 :: es) && absentB fr W && Nat.blt tout fr.sz && Nat.blt r h.nx && Nat.blt m h.nx && noneB h.t h.nx (3 * gs.length) then
            some (⟨fr.tm.ins tout (.slice (some ⟨h.nx + 3 * gs.length - 1, 0, none⟩) gs.length gs.length), fr.sz, fr.ds⟩,
              ⟨(h.t.ins r .dead).ins (h.nx + 3 * gs.length - 1) (.ucells gs e), h.nx + 3 * gs.length, lowerR (lowerR h.lo r) h.nx⟩) else none
        | _, _ => none)
      | _ => none)
    | _ => none)
  | _, _ => none

/-- strings.Map: 't64 = b.Cap(); t65 = t64 == 0'. tb: the builder's address; o: where its slice lies. -/
noncomputable def hookCap (tb tc td : Tmp) (o : Nat) : HookF := fun fr h =>
  match fr.tm.get tb, fr.tm.get tc with
  | some (.pointer (some ⟨id, 0, none⟩)), none => (match h.t.get id with
    | some (.cells c _ _ _ _ _) => (match c.get o with
      | some (.slice none 0 0) => bif Nat.blt tc fr.sz && Nat.blt td fr.sz then some (⟨fr.tm.ins td (.bool true), fr.sz, fr.ds⟩, h) else none
      | some (.slice (some _) _ cap) => bif Nat.ble 1 cap && Nat.blt tc fr.sz && Nat.blt td fr.sz then some (⟨fr.tm.ins td (.bool false), fr.sz, fr.ds⟩, h) else none
      | _ => none)
    | _ => none)
  | _, _ => none
end Go.Ev
end

section
/-
  slices.SortFunc does what it is summed up to.
-/
namespace Go.Ev

theorem insV_perm {cmp : List Value → List Value → Option Int} {x : List Value} : ∀ {l l' : List (List Value)}, insV cmp x l = some l' → l'.Perm (x :: l)
  | [], l', h => by simp only [insV, Option.some.injEq] at h; subst h; exact .refl _
  | y :: l, l', h => by
    simp only [insV] at h
    split at h
    case h_2 => cases h
    rcases bif_or h with h | h
    · simp only [Option.some.injEq] at h; subst h; exact .refl _
    · split at h
      case h_2 => cases h
      rename_i l2 h2
      simp only [Option.some.injEq] at h; subst h
      exact ((insV_perm h2).cons y).trans (.swap x y l)
theorem sortV_perm {cmp : List Value → List Value → Option Int} : ∀ {l l' : List (List Value)}, sortV cmp l = some l' → l'.Perm l
  | [], l', h => by simp only [sortV, Option.some.injEq] at h; subst h; exact .refl _
  | x :: l, l', h => by
    simp only [sortV] at h
    split at h
    case h_2 => cases h
    rename_i l2 h2
    exact (insV_perm h).trans ((sortV_perm h2).cons x)

theorem isNeg_iff {c : Int} : isNeg c = true ↔ c < 0 := by
  cases c with
  | ofNat n => simp [isNeg]
  | negSucc n => simp [isNeg]

/-- What the check of an order says. -/
theorem rises_spec {cmp : List Value → List Value → Option Int} : ∀ {l : List (List Value)}, risesV cmp l = true → ∀ (i j : Nat) (x y : List Value), l[i]? = some x → l[j]? = some y → ∃ c, cmp x y = some c ∧ (c < 0 ↔ i < j)
  | [], _, i, j, x, y, hi, _ => by simp at hi
  | z :: l, h, i, j, x, y, hi, hj => by
    simp only [risesV, Bool.and_eq_true] at h
    obtain ⟨⟨h0, h1⟩, h2⟩ := h
    have ah : ∀ {m : List (List Value)}, aheadV cmp z m = true → ∀ (k : Nat) (u : List Value), m[k]? = some u → (∃ c, cmp z u = some c ∧ c < 0) ∧ ∃ c, cmp u z = some c ∧ ¬ c < 0 := by
      intro m
      induction m with
      | nil => intro _ k u hk; simp at hk
      | cons v m ih =>
        intro hm k u hk
        simp only [aheadV] at hm
        split at hm
        case h_2 => cases hm
        rename_i c d hc hd
        simp only [Bool.and_eq_true] at hm
        cases k with
        | zero =>
          simp at hk; subst hk
          refine ⟨⟨c, hc, isNeg_iff.1 hm.1.1⟩, d, hd, fun hh => ?_⟩
          have := isNeg_iff.2 hh
          rw [this] at hm; simp at hm
        | succ k => exact ih hm.2 k u (by simpa using hk)
    cases i with
    | zero =>
      simp at hi; subst hi
      cases j with
      | zero =>
        simp at hj; subst hj
        split at h0
        case h_2 => cases h0
        rename_i c hc
        refine ⟨c, hc, fun hh => ?_, fun hh => by omega⟩
        have := isNeg_iff.2 hh
        rw [this] at h0; cases h0
      | succ j =>
        obtain ⟨⟨c, hc, hneg⟩, _⟩ := ah h1 j y (by simpa using hj)
        exact ⟨c, hc, fun _ => by omega, fun _ => hneg⟩
    | succ i =>
      cases j with
      | zero =>
        simp at hj; subst hj
        obtain ⟨_, c, hc, hneg⟩ := ah h1 i x (by simpa using hi)
        exact ⟨c, hc, fun hh => absurd hh hneg, fun hh => by omega⟩
      | succ j =>
        obtain ⟨c, hc, hi'⟩ := rises_spec h2 i j x y (by simpa using hi) (by simpa using hj)
        exact ⟨c, hc, by omega⟩

/-- A list that is another's image in another order. -/
theorem perm_map_inv {α β : Type} (f : α → β) {l : List β} {m : List α} (h : l.Perm (m.map f)) : ∃ m' : List α, l = m'.map f ∧ m'.Perm m := by
  have key : ∀ {l l2 : List β}, l.Perm l2 → ∀ m : List α, l2 = m.map f → ∃ m' : List α, l = m'.map f ∧ m'.Perm m := by
    intro l l2 hp
    induction hp with
    | nil => intro m hm; cases m with
      | nil => exact ⟨[], rfl, .refl _⟩
      | cons a m => cases hm
    | cons x _ ih =>
      intro m hm
      cases m with
      | nil => cases hm
      | cons a m =>
        simp only [List.map_cons, List.cons.injEq] at hm
        obtain ⟨m', h1, h2⟩ := ih m hm.2
        exact ⟨a :: m', by rw [List.map_cons, h1, hm.1], h2.cons a⟩
    | swap x y l =>
      intro m hm
      cases m with
      | nil => cases hm
      | cons a m =>
        cases m with
        | nil => cases hm
        | cons b m =>
          simp only [List.map_cons, List.cons.injEq] at hm
          exact ⟨b :: a :: m, by simp [hm.1, hm.2.1, hm.2.2], .swap a b m⟩
    | trans _ _ ih1 ih2 =>
      intro m hm
      obtain ⟨m1, h1, h2⟩ := ih2 m hm
      obtain ⟨m2, h3, h4⟩ := ih1 m1 h1
      exact ⟨m2, h3, h4.trans h2⟩
  exact key h m rfl

section
variable {P : Program} {τ : Tab} {ρ : Ren} {h : Hp} {w : World}

/-- The world has grown. -/
theorem Hkt.grow (hk : Hkt P τ ρ h w) {w' : World} (hsz : w.heap.size ≤ w'.heap.size) (hb : ∀ b, b < w.heap.size → w'.heap[b]? = w.heap[b]?) : Hkt P τ ρ h w' :=
  ⟨⟨hk.1.fresh, fun id pl x e eH => (hk.1.hr id pl x e eH).mono (Ren.le_refl ρ) (hb _ (hk.1.bnd id pl e)), fun id pl e => Nat.lt_of_lt_of_le (hk.1.bnd id pl e) hsz, hk.1.ord, hk.1.glob⟩, hk.2⟩

theorem cmpV_calls {call : CallF} (T : TabOk P τ) (hc : CallOk P τ call) {g : FuncId} (hb : hasBody τ g = true) {nx : Nat} {a b : List Value} {c : Int} (hu : cmpV call g nx a b = some c) (ha : a.all plainCell = true) (hb' : b.all plainCell = true)
    (W : World) (hk : Hkt P τ ρ ⟨.nil, nx, .no⟩ W) : Calls P g #[.agg ⟨a⟩, .agg ⟨b⟩] W fun e w' => e = .returned (.int .i64 c) ∧ ∃ q os', w' = Go.Sort.grow (W.drewN q) os' := by
  unfold cmpV at hu
  split at hu
  case h_2 => cases hu
  rename_i c' h' hcall
  replace hu := bifO hu; obtain ⟨hold, hu⟩ := hu
  simp only [Option.some.injEq] at hu; subst hu
  have hargs : LR ρ [.agg ⟨a⟩, .agg ⟨b⟩] [.agg ⟨a⟩, .agg ⟨b⟩] := .cons (.agg (LR.plain_refl ha)) (.cons (.agg (LR.plain_refl hb')) .nil)
  have hans := hc (.func g) (.func g) _ _ _ _ _ _ ρ W hk (.func g) hargs hcall
  unfold hasBody at hb
  split at hb
  case h_2 => cases hb
  rename_i fn hfn
  obtain ⟨cd, hcd⟩ := Option.isSome_iff_exists.1 hb
  have hent := MuLone.run_callFunc_enter (P := P) (T.fn _ _ hfn).1 ((T.fn _ _ hfn).2 hb) hcd ⟨[.agg ⟨a⟩, .agg ⟨b⟩]⟩ W
  unfold Ans at hans
  simp only [callRaw] at hans
  rw [hent] at hans
  refine (callsIn_wide.1 hans).mono fun e w' hp => ?_
  cases e with
  | outgrown => exact hp.elim
  | panicked ch => obtain ⟨_, _, _, _, _, _, _, _, _, hb, _⟩ := hp; cases hb
  | returned v' =>
    obtain ⟨ρ', v, h1, o1, k1, k2, k3, k4, k5⟩ := hp
    simp only [Option.some.injEq] at k4; subst k4
    have := k5 (List.mem_singleton.2 rfl)
    have := List.mem_singleton.1 this
    cases this
    cases k1
    refine ⟨rfl, w'.drawn - W.drawn, w'.heap.extract W.heap.size w'.heap.size, ?_⟩
    have stp := k3.stp
    have hheap : ∀ b, b < W.heap.size → w'.heap[b]? = W.heap[b]? := fun b hb => stp.chg b hb fun id pl hlo e => by
      have hid : id < nx := Nat.lt_of_not_le fun hh => by rw [hk.1.fresh id hh] at e; cases e
      exact absurd hlo (noOld_spec hold hid)
    have e1 : w'.heap = W.heap ++ w'.heap.extract W.heap.size w'.heap.size := by
      apply Array.ext_getElem?
      intro b
      rcases Nat.lt_or_ge b W.heap.size with hlt | hge
      · rw [Array.getElem?_append_left hlt, hheap b hlt]
      · rw [Array.getElem?_append_right hge, Array.getElem?_extract]
        have hsz := stp.size
        by_cases hb : b < w'.heap.size
        · rw [if_pos (by omega)]; congr 1; omega
        · rw [if_neg (by omega), Array.getElem?_eq_none (by omega)]
    have e2 := stp.os
    have e3 := stp.out
    have e4 := stp.tape
    have e5 := stp.drawn
    cases w' with
    | mk hp tp dr os out =>
      simp only at e1 e2 e3 e4 e5
      simp only [Go.Sort.grow, World.drewN]
      congr 1
      omega
end
end Go.Ev
end

section
/-
  slices.SortFunc: the whole.
-/
namespace Go.Ev

theorem flatten_get {α : Type} {k : Nat} : ∀ (l : List (List α)), (∀ g ∈ l, g.length = k) → ∀ j, j < l.length * k → l.flatten[j]? = (l[j / k]?).bind fun g => g[j % k]?
  | [], _, j, h => by simp at h
  | g :: l, hg, j, h => by
    have hk : g.length = k := hg g List.mem_cons_self
    have hk0 : 0 < k := by
      rcases Nat.eq_zero_or_pos k with h0 | h0
      · subst h0; simp at h
      · exact h0
    rw [List.flatten_cons]
    by_cases hj : j < k
    · rw [List.getElem?_append_left (by omega), Nat.div_eq_of_lt hj, Nat.mod_eq_of_lt hj]; rfl
    · rw [List.getElem?_append_right (by omega), hk]
      have h' : j - k < l.length * k := by
        simp only [List.length_cons, Nat.add_mul, Nat.one_mul] at h; omega
      rw [flatten_get l (fun g' hg' => hg g' (List.mem_cons_of_mem _ hg')) (j - k) h']
      have e1 : j / k = (j - k) / k + 1 := Nat.div_eq_sub_div hk0 (by omega)
      have e2 : j % k = (j - k) % k := by rw [Nat.mod_eq_sub_mod (by omega)]
      rw [e1, e2, List.getElem?_cons_succ]
theorem flatten_len {α : Type} {k : Nat} : ∀ (l : List (List α)), (∀ g ∈ l, g.length = k) → l.flatten.length = l.length * k
  | [], _ => by simp
  | g :: l, hg => by
    rw [List.flatten_cons, List.length_append, flatten_len l fun g' hg' => hg g' (List.mem_cons_of_mem _ hg'), hg g List.mem_cons_self, List.length_cons, Nat.add_mul, Nat.one_mul]; omega
theorem flatK_get {α : Type} [Inhabited α] {k : Nat} (enc : α → List Value) (d : Array α) {j : Nat} (h : j < d.size * k) : (Go.Sort.flatK enc k d)[j]! = (enc d[j / k]!)[j % k]! := by
  unfold Go.Sort.flatK
  rw [getElem!_pos (Array.map _ _) j (by simpa using h)]
  simp
theorem plainCell_one {v : Value} (h : plainCell v = true) : v.oneCell' = true := by
  unfold plainCell at h
  split at h <;> first
    | rfl
    | cases h

section
variable {P : Program} {τ : Tab}
open Go.Sort Go.Proofs Go.Shelf

theorem sort_ov (T : TabOk P τ) {rk : Go.Shelf.Ren} (L : SlLaysF0.n6 P rk) {e : TypeId} (he : rk.t 24 = e) (aE : ∀ w, (isAgg e).run P w = .ok true w) (hbf : hasBody τ (rk.f 6) = true) {call : CallF} (hc : CallOk P τ call)
    {args args' : List Value} {h h' : Hp} {v : Value} {ρ : Go.Ev.Ren} {w : World} (hk : Hkt P τ ρ h w) (hl : LR ρ args args') (hu : sortB τ e call args h = some (v, h')) (k kp : Value → Hp → RR) (outs : List Out) (hkv : k v h' = some outs) :
    Ans P (callFunc (rk.f 6) ⟨args'⟩) w (Post P τ ρ w h k kp outs) := by
  unfold sortB at hu
  split at hu
  case h_2 => cases hu
  rename_i id len cap g
  split at hu
  case h_2 => cases hu
  rename_i gs e' i eH hi
  replace hu := bifO hu; obtain ⟨hch, hu⟩ := hu
  obtain ⟨hch, q6⟩ := and2 hch
  obtain ⟨hch, q5⟩ := and2 hch
  obtain ⟨hch, q4⟩ := and2 hch
  obtain ⟨hch, q3⟩ := and2 hch
  obtain ⟨q1, q2⟩ := and2 hch
  have q1 := Nat.eq_of_beq_eq_true q1
  have q2 := Nat.eq_of_beq_eq_true q2
  have q3 : 0 < len := by simpa [Nat.blt_eq] using q3
  have q4 := Nat.le_of_ble_eq_true q4
  subst q1
  split at hu
  case h_2 => cases hu
  rename_i sg hsg
  replace hu := bifO hu; obtain ⟨hrise, hu⟩ := hu
  simp only [Option.some.injEq, Prod.mk.injEq] at hu
  obtain ⟨rfl, rfl⟩ := hu
  cases hl with | cons hx hl =>
  cases hl with | cons hy hl =>
  cases hl
  cases hx with | @slice _ _ _ _ _ pl o' e1 e2 =>
  cases hy with | func hfn hla hlc =>
  cases hfn; cases hla; cases hlc
  have ho : o' = pl.o := by have := e2 (by omega); omega
  subst ho
  obtain ⟨g0, C, fz, gs', g1, gp, gfz, gsz, gget⟩ := hk.1.hr _ _ _ e1 eH
  have hii := T.inf _ _ hi
  -- the elements, in their order
  have hperm := sortV_perm hsg
  have hlen : sg.length = len := by rw [hperm.length_eq, q2]
  have hgl : ∀ x ∈ gs, x.length = i.size := fun x hx => Nat.eq_of_beq_eq_true (List.all_eq_true.1 q6 x hx)
  have hsl : ∀ x ∈ sg, x.length = i.size := fun x hx => hgl x (hperm.subset hx)
  have hsp : ∀ x ∈ sg, x.all plainCell = true := fun x hx => List.all_eq_true.1 g0 x (hperm.subset hx)
  have hspec := rises_spec hrise
  let enc : Fin len → List Value := fun j => sg.getD j.1 []
  haveI : Inhabited (Fin len) := ⟨⟨0, q3⟩⟩
  have hencg : ∀ j : Fin len, sg[j.1]? = some (enc j) := fun j => by
    show sg[j.1]? = some (sg.getD j.1 [])
    have : j.1 < sg.length := by rw [hlen]; exact j.2
    rw [List.getD_eq_getElem?_getD, List.getElem?_eq_getElem this]; rfl
  have hencm : ∀ j : Fin len, enc j ∈ sg := fun j => List.mem_of_getElem? (hencg j)
  have hsgm : sg = (List.finRange len).map enc := by
    apply List.ext_getElem?
    intro j
    rw [List.getElem?_map]
    by_cases hj : j < len
    · rw [List.getElem?_eq_getElem (l := List.finRange len) (by simpa using hj)]
      have := hencg ⟨j, hj⟩
      simp only at this
      rw [this]
      simp
    · rw [List.getElem?_eq_none (by omega), List.getElem?_eq_none (by simp; omega)]; rfl
  obtain ⟨m', hm1, hm2⟩ := perm_map_inv enc (l := gs') (m := List.finRange len) (by rw [← hsgm]; exact gp.trans hperm.symm)
  have hmlen : m'.length = len := by rw [hm2.length_eq]; simp
  have hgs'l : ∀ x ∈ gs', x.length = i.size := fun x hx => hgl x (gp.subset hx)
  -- the comparison
  let cf : Fin len → Fin len → Int := fun x y => (cmpV call g h.nx (enc x) (enc y)).getD 0
  have hcf : ∀ x y, cmpV call g h.nx (enc x) (enc y) = some (cf x y) ∧ (cf x y < 0 ↔ x < y) := fun x y => by
    obtain ⟨c, hc1, hc2⟩ := hspec x.1 y.1 _ _ (hencg x) (hencg y)
    have : cf x y = c := by show (cmpV call g h.nx (enc x) (enc y)).getD 0 = c; rw [hc1]; rfl
    rw [this]; exact ⟨hc1, hc2⟩
  have hlt : ∀ x y, ltOf cf x y = decide (x < y) := fun x y => by
    unfold ltOf; exact decide_eq_decide.2 (hcf x y).2
  have hO : SWO (ltOf cf) := ⟨fun x => by rw [hlt]; simp, fun x y z h1 h2 => by rw [hlt] at *; simp at *; omega, fun x y z h1 h2 => by rw [hlt] at *; simp at *; omega⟩
  have eg : ∀ args w, (callFunc g args).run P w = .ok (.enter g args) w := by
    intro args w
    unfold hasBody at q5
    split at q5
    case h_2 => cases q5
    rename_i fn hfn
    obtain ⟨cd, hcd⟩ := Option.isSome_iff_exists.1 q5
    exact MuLone.run_callFunc_enter (T.fn _ _ hfn).1 ((T.fn _ _ hfn).2 q5) hcd args w
  have hsz : ∀ m dk os, (sortWorldK enc i.size w pl.b pl.o m dk os).heap.size = w.heap.size + os.size := fun m dk os => by
    unfold sortWorldK; rw [size_grow]; unfold putRowK; rw [Go.Sort.size_putRow]; rfl
  have hbnd := hk.1.bnd id pl e1
  have hcmp : CmpLays P g #[] enc i.size cf pl.b pl.o m'.toArray.size w := by
    intro m os dk hdk x y
    have hkn : Hkt P τ ρ ⟨.nil, h.nx, .no⟩ (sortWorldK enc i.size w pl.b pl.o m dk os) :=
      ⟨⟨hk.1.fresh, fun id pl hb e eH => (by cases eH), fun id pl e => by rw [hsz]; have := hk.1.bnd id pl e; omega, fun x y px py hx ex ey eHx => (by cases eHx), hk.1.glob⟩, hk.2⟩
    have := cmpV_calls T hc q5 (hcf x y).1 (hsp _ (hencm x)) (hsp _ (hencm y)) _ hkn
    simpa using this
  have hH : HoldsK enc i.size w pl.b pl.o m'.toArray := by
    intro j hj
    rw [size_flatK] at hj
    simp only [List.size_toArray] at hj
    have hj0 : 0 < i.size := by
      rcases Nat.eq_zero_or_pos i.size with h0 | h0
      · rw [h0] at hj; simp at hj
      · exact h0
    have hjk : j / i.size < m'.length := Nat.div_lt_of_lt_mul (by rw [Nat.mul_comm]; exact hj)
    have hf : gs'.flatten[j]? = some ((flatK enc i.size m'.toArray)[j]!) := by
      rw [flatten_get gs' hgs'l j (by rw [hm1, List.length_map]; exact hj), hm1, List.getElem?_map, List.getElem?_eq_getElem hjk]
      have hmod : j % i.size < (enc m'[j / i.size]).length := by rw [hsl _ (hencm _)]; exact Nat.mod_lt _ hj0
      simp only [Option.map_some, Option.bind_some]
      rw [List.getElem?_eq_getElem hmod]
      rw [flatK_get enc _ (by simpa using hj), getElem!_pos m'.toArray (j / i.size) (by simpa using hjk)]
      simp only [List.getElem_toArray]
      rw [getElem!_pos (enc m'[j / i.size]) (j % i.size) hmod]
    refine ⟨?_, ?_⟩
    · unfold World.cell?
      simp only [g1]
      rw [gget j _ hf]; rfl
    · unfold World.frozen?
      simp only [g1]
      have := gfz
      simp only [Bool.and_eq_false_imp, decide_eq_true_eq, decide_eq_false_iff_not]
      omega
  subst he
  have hcon := AnyQ.slices_SortFunc L i.size aE (fun w => run_sizeOf hii w) enc (fun x => hsl _ (hencm x)) (fun x u hu => plainCell_one (List.all_eq_true.1 (hsp _ (hencm x)) u hu)) cf hO g #[] pl.b pl.o (cap + slk none pl) m'.toArray w eg hcmp hH hbnd (by simp; omega)
  have hent : (callFunc (rk.f 6) ⟨[.slice (some ⟨pl.b, pl.o, none⟩) len (cap + slk none pl), .func (.func g) ⟨[]⟩ ⟨[]⟩]⟩).run P w = .ok (.enter (rk.f 6) ⟨[.slice (some ⟨pl.b, pl.o, none⟩) len (cap + slk none pl), .func (.func g) ⟨[]⟩ ⟨[]⟩]⟩) w := by
    unfold hasBody at hbf
    split at hbf
    case h_2 => cases hbf
    rename_i fn hfn
    obtain ⟨cd, hcd⟩ := Option.isSome_iff_exists.1 hbf
    exact MuLone.run_callFunc_enter (T.fn _ _ hfn).1 ((T.fn _ _ hfn).2 hbf) hcd _ w
  unfold Ans
  rw [hent]
  have hds : m'.toArray.size = len := by simp [hmlen]
  rw [hds] at hcon
  refine callsIn_wide.2 (Calls.mono hcon fun en w' hp => ?_)
  obtain ⟨rfl, d', n, os, hpi, hso, rfl⟩ := hp
  -- the order is the one
  have hdl : d'.size = len := by rw [hpi.1, hds]
  have hdp : d'.toList.Perm m' := by
    have := hpi.2.2
    simp only [Array.toList_extract, List.extract_eq_take_drop, Nat.sub_zero, List.drop_zero] at this
    rwa [List.take_of_length_le (by simp [hdl]), List.take_of_length_le (by simp [hmlen])] at this
  have hd' : d'.toList = List.finRange len := by
    refine List.Perm.eq_of_pairwise (le := fun a b : Fin len => a ≤ b) (fun a b _ _ h1 h2 => Fin.le_antisymm h1 h2) ?_ ?_ (hdp.trans hm2)
    · rw [List.pairwise_iff_getElem]
      intro a b ha hb hab
      have ha' : a < d'.size := by simpa using ha
      have hb' : b < d'.size := by simpa using hb
      have := hso a b (Nat.zero_le _) hab (by omega)
      rw [hlt, getElem!_pos d' a ha', getElem!_pos d' b hb'] at this
      simp only [decide_eq_false_iff_not] at this
      have := Fin.not_lt.1 this
      simpa using this
    · rw [List.pairwise_iff_getElem]
      intro a b ha hb hab
      simp [Fin.le_def]; omega
  -- what the row holds
  have hHw := holdsK_putRowK enc i.size (Go.Sort.ahead w n) pl.b pl.o m'.toArray d' (holdsK_ahead enc i.size w n pl.b pl.o _ hH) (by rw [hdl, hds])
  have hfl : sg.flatten.length = len * i.size := by rw [flatten_len sg hsl, hlen]
  have hflg : gs'.flatten.length = len * i.size := by rw [flatten_len gs' hgs'l, hm1, List.length_map, hmlen]
  have hcells : ∀ j u, sg.flatten[j]? = some u → (putCells (_root_.id : Value → Value) pl.o (flatK enc i.size d') C)[pl.o + j]? = some u := by
    intro j u hu
    have hj : j < len * i.size := by
      have := (List.getElem?_eq_some_iff.1 hu).1; omega
    have hj0 : 0 < i.size := by
      rcases Nat.eq_zero_or_pos i.size with h0 | h0
      · rw [h0] at hj; simp at hj
      · exact h0
    have hjk : j / i.size < len := Nat.div_lt_of_lt_mul (by rw [Nat.mul_comm]; exact hj)
    have h1 := (hHw j (by rw [size_flatK, hdl]; exact hj)).1
    have hfk : (flatK enc i.size d')[j]! = u := by
      rw [flatten_get sg hsl j (by rw [hlen]; exact hj), hencg ⟨j / i.size, hjk⟩] at hu
      simp only [Option.bind_some] at hu
      rw [flatK_get enc _ (by rw [hdl]; exact hj), getElem!_pos d' (j / i.size) (by rw [hdl]; exact hjk)]
      have : d'[j / i.size]'(by rw [hdl]; exact hjk) = ⟨j / i.size, hjk⟩ := by
        have h2 : d'.toList[j / i.size]? = (List.finRange len)[j / i.size]? := by rw [hd']
        rw [Array.getElem?_toList, Array.getElem?_eq_getElem (by rw [hdl]; exact hjk), List.getElem?_eq_getElem (by simpa using hjk)] at h2
        simpa using h2
      rw [this]
      rw [List.getElem!_eq_getElem?_getD, hu]; rfl
    rw [hfk] at h1
    unfold World.cell? putRowK putRow mapBlock at h1
    simp only [Array.getElem?_modify, if_true] at h1
    have g1' : (Go.Sort.ahead w n).heap[pl.b]? = some (Obj.cells C (rk.t 24) fz) := g1
    rw [g1'] at h1
    simpa [onCells] using h1
  let w1 : World := putRowK enc i.size (Go.Sort.ahead w n) pl.b pl.o d'
  have hw1 : sortWorldK enc i.size w pl.b pl.o n d' os = grow w1 os := rfl
  have hw1s : w1.heap.size = w.heap.size := by
    show (putRow _ _ _ _ _).heap.size = _
    rw [Go.Sort.size_putRow]; rfl
  have hw1b : ∀ b, b ≠ pl.b → w1.heap[b]? = w.heap[b]? := fun b hb => by
    show (w.heap.modify pl.b _)[b]? = _
    rw [Array.getElem?_modify, if_neg (Ne.symm hb)]
  have hw1c : w1.heap[pl.b]? = some (.cells (putCells (_root_.id : Value → Value) pl.o (flatK enc i.size d') C) (rk.t 24) fz) := by
    show (w.heap.modify pl.b _)[pl.b]? = _
    rw [Array.getElem?_modify, if_pos rfl, g1]; rfl
  have hCs : (putCells (_root_.id : Value → Value) pl.o (flatK enc i.size d') C).size = C.size := by simp [putCells]
  have hBR : BR P ρ pl w1 (.cells (Ev.T.laid sg.flatten 0 .nil) sg.flatten.length (rk.t 24) 0 0 false) := by
    have hsz' := gsz i hii
    refine ⟨_, fz, hw1c, by rw [hCs, hfl]; omega, fun i' hi' => ?_, fun j u hu => ?_, .inl gfz, by simp⟩
    · rw [hii] at hi'; cases hi'
      rw [hCs, hfl]; omega
    · rw [Ev.T.get_laid] at hu
      by_cases hj : 0 ≤ j ∧ j < 0 + sg.flatten.length
      · rw [if_pos hj] at hu
        simp only [Nat.sub_zero] at hu
        refine ⟨by omega, u, hcells j u hu, ?_⟩
        obtain ⟨x, hx1, hx2⟩ := List.mem_flatten.1 (List.mem_of_getElem? hu)
        exact VR.plainCell_refl (List.all_eq_true.1 (hsp x hx1) u hx2)
      · rw [if_neg hj, Ev.T.get_nil] at hu; cases hu
  obtain ⟨k1, k2⟩ := hk.write (w' := w1) (hdr := Nat.le_add_right _ _) e1 eH rfl hw1s hw1b hBR rfl rfl rfl
  have hgb : ∀ b, b < w1.heap.size → (grow w1 os).heap[b]? = w1.heap[b]? := fun b hb => by
    show (w1.heap ++ os)[b]? = _
    rw [Array.getElem?_append_left hb]
  have hgs : w1.heap.size ≤ (grow w1 os).heap.size := by rw [size_grow]; omega
  refine ⟨ρ, _, _, outs, .tuple .nil, ?_, ⟨?_, AF.put _ _ _⟩, hkv, fun _ hx => hx⟩
  · rw [hw1]; exact k1.grow hgs hgb
  · rw [hw1]
    exact ⟨k2.ext, Nat.le_trans k2.size hgs, fun b hb hh => by rw [hgb b (by rw [hw1s]; exact hb)]; exact k2.chg b hb hh, k2.new, k2.nx, k2.os, k2.out, k2.tape, k2.drawn⟩
end
end Go.Ev
end
