/- Plain laws of the functions. -/
import Derived.Test.YtlhbkdaohjnjbaaCFnDisksD
import Derived.Test.YtlhbkdaohjnjbaaPu2
set_option linter.unusedVariables false
set_option linter.unusedSimpArgs false
namespace Go.Tm.Pu
open Go.Tm
def M.within (n a b : Int) : Bool := decide (a ≤ n) && decide (n ≤ b)
theorem within_t {n a b : Int} (h : M.within n a b = true) : a ≤ n ∧ n ≤ b := by simpa [M.within] using h
theorem within_f {n a b : Int} (h : M.within n a b = false) : n < a ∨ b < n := by
  simp [M.within] at h; omega
theorem impl_within_eq (u : Nat) (n a b : Int) : impl_within u n a b = some (M.within n a b) := by
  unfold impl_within M.within
  by_cases h : a ≤ n <;> simp [h]
theorem spec_l1In_eq (u : Nat) (n a b : Int) : spec_l1In u n a b = some (M.within n a b) := by
  unfold spec_l1In M.within
  by_cases h : a ≤ n <;> simp [h]
theorem impl_cloned_eq (u : Nat) {b : List Int} (hl : b.length ≤ 1073741824) : impl_cloned u b = some b := by
  unfold impl_cloned
  rw [chk_dec (by simp; omega), chk_dec (by simp; omega)]
  simp [chk]
theorem toNat_ofInt64 {a : Int} (h1 : 0 ≤ a) (h2 : a < 18446744073709551616) : (BitVec.ofInt 64 a).toNat = a.toNat := by
  rw [BitVec.toNat_ofInt]; omega
theorem bAnd_nat {a b : Nat} (h1 : a < 9223372036854775808) (h2 : b < 9223372036854775808) : bAnd .i64 (a : Int) (b : Int) = ((a &&& b : Nat) : Int) := by
  unfold bAnd
  have e : (BitVec.ofInt (IntKind.bits .i64) (a : Int) &&& BitVec.ofInt (IntKind.bits .i64) (b : Int)).toNat = a &&& b := by
    change (BitVec.ofInt 64 (a : Int) &&& BitVec.ofInt 64 (b : Int)).toNat = _
    rw [BitVec.toNat_and, toNat_ofInt64 (by omega) (by omega), toNat_ofInt64 (by omega) (by omega)]; rfl
  rw [e]
  have : a &&& b ≤ a := Nat.and_le_left
  exact wrap_i64 (by omega) (by omega)
theorem bShl1_nat {i : Nat} (h : i ≤ 62) : bShl .i64 1 (i : Int) = ((2 ^ i : Nat) : Int) := by
  unfold bShl
  rw [show min (Int.toNat (i : Int)) (IntKind.bits .i64) = i by simp [IntKind.bits]; omega]
  have h1 : (2 : Nat) ^ i ≤ 2 ^ 62 := Nat.pow_le_pow_right (by omega) h
  have h2 : (1 : Int) * 2 ^ i = ((2 ^ i : Nat) : Int) := by simp
  rw [h2]
  generalize (2 : Nat) ^ i = p at h1
  exact wrap_i64 (by omega) (by omega)
theorem bShr_nat {a i : Nat} (h : i ≤ 64) : bShr .i64 (a : Int) (i : Int) = ((a / 2 ^ i : Nat) : Int) := by
  rw [bShr_k .i64 _ i h]; simp
def M.setOk (s : Int) : Bool := M.within s 0 1099511627775
def M.isPlace (i : Int) : Bool := M.within i 0 39
def M.inSet (s i : Int) : Bool := M.setOk s && M.isPlace i && s.toNat.testBit i.toNat
theorem impl_SetOk_eq (u : Nat) (s : Int) : impl_SetOk u s = some (M.setOk s) := by simp [impl_SetOk, impl_within_eq, M.setOk]
theorem spec_SetOk_eq (u : Nat) (s : Int) : spec_SetOk u s = some (M.setOk s) := by simp [spec_SetOk, spec_l1In_eq, M.setOk]
theorem impl_isPlace_eq (u : Nat) (s : Int) : impl_isPlace u s = some (M.isPlace s) := by simp [impl_isPlace, impl_within_eq, M.isPlace]
theorem bit_eq {s i : Int} (hs : M.setOk s = true) (hi : M.isPlace i = true) : (bAnd .i64 (bShr .i64 s i) 1 == 1) = s.toNat.testBit i.toNat := by
  have h1 := within_t hs
  have h2 := within_t hi
  obtain ⟨a, rfl⟩ := Int.eq_ofNat_of_zero_le h1.1
  obtain ⟨n, rfl⟩ := Int.eq_ofNat_of_zero_le h2.1
  rw [bShr_nat (by omega)]
  have h3 : a / 2 ^ n ≤ a := Nat.div_le_self a _
  rw [show (1 : Int) = ((1 : Nat) : Int) by rfl, bAnd_nat (by omega) (by omega), Nat.and_one_is_mod]
  simp only [Int.toNat_natCast, Nat.testBit_eq_decide_div_mod_eq]
  generalize a / 2 ^ n = z
  rw [Bool.eq_iff_iff, beq_iff_eq, decide_eq_true_eq]; omega
theorem impl_InSet_eq (u : Nat) (s i : Int) : impl_InSet u s i = some (M.inSet s i) := by
  unfold impl_InSet M.inSet
  simp only [impl_SetOk_eq, impl_isPlace_eq, Option.bind_some]
  cases h1 : M.setOk s with
  | false => simp
  | true =>
    cases h2 : M.isPlace i with
    | false => simp
    | true =>
      have h3 := within_t h2
      rw [chk_dec (by omega)]
      simp [bit_eq h1 h2]
theorem spec_InSet_eq (u : Nat) (s i : Int) : spec_InSet u s i = some (M.inSet s i) := by
  unfold spec_InSet M.inSet
  simp only [spec_SetOk_eq, spec_l1In_eq, Option.bind_some]
  cases h1 : M.setOk s with
  | false => simp
  | true =>
    change ((bif true then (bif M.isPlace i then _ else _) else _) : Option Bool) = _
    cases h2 : M.isPlace i with
    | false => simp
    | true =>
      have h3 := within_t h2
      simp only [cond_true]
      rw [chk_dec (by omega)]
      simp [bit_eq h1 h2]
theorem record_beq (x y : Record) : (([x.fGen, x.fSlot, x.fLen] : List Int) == [y.fGen, y.fSlot, y.fLen]) = decide (x = y) := by
  obtain ⟨a0, a1, a2⟩ := x
  obtain ⟨b0, b1, b2⟩ := y
  rw [Bool.eq_iff_iff]; simp
theorem len_beq (a b : Nat) : ((a : Int) == (b : Int)) = (a == b) := by rw [Bool.eq_iff_iff, beq_iff_eq, beq_iff_eq]; omega
def M.idxFrom {α : Type} (f : α → Bool) : List α → Nat → Int
  | [], _ => -1
  | x :: l, i => if f x then i else M.idxFrom f l (i + 1)
theorem wlist_index {α : Type} {fin : Unit → Option Int} {body : α → Nat → Unit → (Unit → Option Int) → Option Int} (f : α → Bool) {xs : List α} (hf : fin () = some (-1)) (hb : ∀ x i k, x ∈ xs → body x i () k = bif f x then some (i : Int) else k ()) :
    wlist fin body xs 0 () = some (M.idxFrom f xs 0) := by
  have : ∀ (l : List α) (i : Nat), (∀ y ∈ l, y ∈ xs) → wlist fin body l i () = some (M.idxFrom f l i) := by
    intro l
    induction l with
    | nil => intro i _; exact hf
    | cons x l ih =>
      intro i h
      simp only [wlist, M.idxFrom]
      rw [hb x i _ (h x (by simp)), ih (i + 1) (fun y hy => h y (by simp [hy]))]
      cases f x <;> simp
  exact this xs 0 (fun _ h => h)
theorem idxFrom_any {α : Type} (f : α → Bool) : ∀ (l : List α) (i : Nat), decide (M.idxFrom f l i ≥ 0) = l.any f := by
  intro l
  induction l with
  | nil => intro i; rfl
  | cons x l ih =>
    intro i
    rw [List.any_cons, ← ih (i + 1), Bool.eq_iff_iff]
    simp only [decide_eq_true_eq, Bool.or_eq_true]
    by_cases h : f x = true
    · simp [M.idxFrom, h]
    · simp [M.idxFrom, h]
def M.recordOk (r : Record) : Bool := M.within r.fGen 0 1000000 && M.within r.fSlot 0 1 && M.within r.fLen 0 240
theorem spec_l9Record_eq (u : Nat) (r : Record) : spec_l9Record u r = some (M.recordOk r) := by
  unfold spec_l9Record M.recordOk
  simp only [spec_l1In_eq, Option.bind_some]
  cases M.within r.fGen 0 1000000 <;> cases M.within r.fSlot 0 1 <;> rfl
theorem impl_isSlot_eq (u : Nat) (n : Int) : impl_isSlot u n = some (M.within n 0 1) := by
  unfold impl_isSlot M.within
  by_cases h0 : n = 0
  · subst h0; rfl
  · by_cases h1 : n = 1
    · subst h1; rfl
    · have e0 : (n == 0) = false := by simpa using h0
      have e1 : (n == 1) = false := by simpa using h1
      simp only [e0, e1, cond_false]
      by_cases h : 0 ≤ n
      · have : ¬ n ≤ 1 := by omega
        simp [this]
      · simp [h]
theorem impl_isRecord_eq (u : Nat) (r : Record) : impl_isRecord u r = some (M.recordOk r) := by
  unfold impl_isRecord impl_isGen M.recordOk
  simp only [impl_within_eq, impl_isSlot_eq, Option.bind_some]
  cases M.within r.fGen 0 1000000 <;> cases M.within r.fSlot 0 1 <;> rfl
def M.slotOf (d : Disk) (n : Int) : List Int := if n = 0 then d.fA else d.fB
theorem impl_slot_eq (u : Nat) (d : Disk) (n : Int) : impl_Disk__slot__frz0 u d n = some (M.slotOf d n) := by
  unfold impl_Disk__slot__frz0 M.slotOf
  by_cases h : n = 0
  · simp [h]
  · have : (n == 0) = false := by simpa using h
    simp [h, this]
theorem spec_slot_eq (u : Nat) (d : Disk) {n : Int} (h : M.within n 0 1 = true) : spec_l9Slot u d n = some (M.slotOf d n) := by
  unfold spec_l9Slot M.slotOf
  have := within_t h
  by_cases h0 : n = 0
  · subst h0; rfl
  · have : n = 1 := by omega
    subst this; rfl
def M.putOk (p : Put) : Bool := if p.fWhat = 2 then (p.fAt == 0) && (p.fB.length == 0) && M.recordOk p.fR else M.within p.fWhat 0 1 && decide (p.fR = ⟨0, 0, 0⟩) && M.within p.fAt 0 (240 - p.fB.length)
theorem record_beq0 (x : Record) : (([x.fGen, x.fSlot, x.fLen] : List Int) == [0, 0, 0]) = decide (x = ⟨0, 0, 0⟩) := record_beq x ⟨0, 0, 0⟩
theorem impl_isPut_eq (u : Nat) {p : Put} (h : p.fB.length ≤ 1048576) : impl_isPut u p = some (M.putOk p) := by
  unfold impl_isPut M.putOk
  rw [bSub_i64 (by omega) (by omega)]
  simp only [impl_isRecord_eq, impl_isSlot_eq, impl_within_eq, Option.bind_some, record_beq0]
  have e : ((p.fB.length : Int) == 0) = (p.fB.length == 0) := len_beq _ 0
  by_cases h2 : p.fWhat = 2
  · simp only [h2, beq_self_eq_true, cond_true, if_true, e]
    cases p.fAt == 0 <;> cases p.fB.length == 0 <;> rfl
  · have : (p.fWhat == 2) = false := by simpa using h2
    simp only [this, cond_false, h2, if_false]
    cases M.within p.fWhat 0 1 <;> cases decide (p.fR = ⟨0, 0, 0⟩) <;> rfl
theorem spec_l9Put_eq (u : Nat) {p : Put} (h : p.fB.length ≤ 1048576) : spec_l9Put u p = some (M.putOk p) := by
  unfold spec_l9Put M.putOk
  simp only [spec_l9Record_eq, spec_l1In_eq, Option.bind_some, record_beq0]
  have e : ((p.fB.length : Int) == 0) = (p.fB.length == 0) := len_beq _ 0
  by_cases h2 : p.fWhat = 2
  · simp only [h2, beq_self_eq_true, cond_true, if_true, e]
    cases p.fAt == 0 <;> cases p.fB.length == 0 <;> rfl
  · have : (p.fWhat == 2) = false := by simpa using h2
    simp only [this, cond_false, h2, if_false]
    cases h3 : M.within p.fAt 0 240 with
    | false =>
      have h4 : M.within p.fAt 0 (240 - p.fB.length) = false := by
        have := within_f h3
        simp [M.within]; omega
      rw [h4]
      cases M.within p.fWhat 0 1 <;> cases decide (p.fR = ⟨0, 0, 0⟩) <;> rfl
    | true =>
      have h3 := within_t h3
      rw [bSub_i64 (by omega) (by omega)]
      have h4 : M.within p.fAt 0 (240 - p.fB.length) = decide ((p.fB.length : Int) ≤ 240 - p.fAt) := by
        rw [Bool.eq_iff_iff]; simp [M.within]; omega
      rw [h4]
      cases M.within p.fWhat 0 1 <;> cases decide (p.fR = ⟨0, 0, 0⟩) <;> cases decide ((p.fB.length : Int) ≤ 240 - p.fAt) <;> rfl
def M.diskOk (d : Disk) : Bool := decide (d.fA.length ≤ 240) && decide (d.fB.length ≤ 240) && M.recordOk d.fR && decide (d.fR.fLen ≤ (M.slotOf d d.fR.fSlot).length) && decide (d.fP.length ≤ 200) && d.fP.all M.putOk
structure M.DOk (d : Disk) : Prop where
  a : d.fA.length ≤ 1048576
  b : d.fB.length ≤ 1048576
  p : d.fP.length ≤ 1048576
  puts : ∀ x ∈ d.fP, x.fB.length ≤ 1048576
theorem contains_DiskOk {u : Nat} (hu : 1099511627776 ≤ u) {l : List Put} (hl : l.length ≤ 1048576) (hp : ∀ x ∈ l, x.fB.length ≤ 1048576) : slices_ContainsFunc___impl_Put_impl_Put__impl_DiskOk_1 u l = some (l.any fun x => !M.putOk x) := by
  unfold slices_ContainsFunc___impl_Put_impl_Put__impl_DiskOk_1 slices_IndexFunc___impl_Put_impl_Put__impl_DiskOk_1
  rw [slices_IndexFunc___impl_Put_impl_Put__impl_DiskOk_1_l2_w u l () u (by omega) (by omega), wlist_index (fun x => !M.putOk x) rfl (fun x i k hx => by unfold slices_IndexFunc___impl_Put_impl_Put__impl_DiskOk_1_l2_b impl_DiskOk_1; rw [impl_isPut_eq u (hp x hx)]; rfl)]
  simp only [Option.bind_some, idxFrom_any]
theorem not_any_not {α : Type} (f : α → Bool) (l : List α) : (!(l.any fun x => !f x)) = l.all f := by
  induction l with
  | nil => rfl
  | cons x l ih => simp only [List.any_cons, List.all_cons, Bool.not_or, Bool.not_not, ih]
theorem gt_not (a b : Int) : decide (a > b) = !decide (a ≤ b) := by
  by_cases h : a ≤ b
  · have : ¬ a > b := by omega
    simp [h, this]
  · have : a > b := by omega
    simp [h, this]
theorem le_nat (a b : Nat) : decide ((a : Int) ≤ (b : Int)) = decide (a ≤ b) := by rw [decide_eq_decide]; omega
theorem impl_DiskOk_eq {u : Nat} (hu : 1099511627776 ≤ u) {d : Disk} (hd : M.DOk d) : impl_DiskOk u d = some (M.diskOk d) := by
  unfold impl_DiskOk impl_DiskOk_j1 M.diskOk
  simp only [impl_isRecord_eq, impl_slot_eq, contains_DiskOk hu hd.p hd.puts, Option.bind_some, not_any_not, gt_not]
  have e1 : decide ((d.fA.length : Int) ≤ 240) = decide (d.fA.length ≤ 240) := le_nat _ 240
  have e2 : decide ((d.fB.length : Int) ≤ 240) = decide (d.fB.length ≤ 240) := le_nat _ 240
  have e3 : decide ((d.fP.length : Int) ≤ 200) = decide (d.fP.length ≤ 200) := le_nat _ 200
  rw [e1, e2, e3]
  cases decide (d.fA.length ≤ 240) <;> cases decide (d.fB.length ≤ 240) <;> cases M.recordOk d.fR <;> cases decide (d.fR.fLen ≤ (M.slotOf d d.fR.fSlot).length) <;> cases decide (d.fP.length ≤ 200) <;> rfl
theorem spec_DiskOk_loop {u : Nat} (hu : 1099511627776 ≤ u) {d : Disk} (hd : M.DOk d) : spec_DiskOk_l3 u u 0 d = some (d.fP.all M.putOk) := by
  have := hd.p
  rw [spec_DiskOk_l3_w u d () u (by omega) (by omega)]
  have : ∀ (l : List Put) (i : Nat), (∀ y ∈ l, y ∈ d.fP) → wlist (spec_DiskOk_l3_f u d) (spec_DiskOk_l3_b u d) l i () = some (l.all M.putOk) := by
    intro l
    induction l with
    | nil => intro i _; rfl
    | cons x l ih =>
      intro i h
      simp only [wlist, spec_DiskOk_l3_b, spec_l9Put_eq u (hd.puts x (h x (by simp))), Option.bind_some, List.all_cons]
      rw [ih (i + 1) (fun y hy => h y (by simp [hy]))]
      cases M.putOk x <;> rfl
  exact this _ 0 (fun _ h => h)
theorem recordOk_slot {r : Record} (h : M.recordOk r = true) : M.within r.fSlot 0 1 = true ∧ 0 ≤ r.fLen ∧ r.fLen ≤ 240 := by
  unfold M.recordOk at h
  simp only [Bool.and_eq_true] at h
  exact ⟨h.1.2, (within_t h.2).1, (within_t h.2).2⟩
theorem spec_DiskOk_eq {u : Nat} (hu : 1099511627776 ≤ u) {d : Disk} (hd : M.DOk d) : spec_DiskOk u d = some (M.diskOk d) := by
  unfold spec_DiskOk spec_DiskOk_j1 M.diskOk
  have e1 : decide ((d.fA.length : Int) ≤ 240) = decide (d.fA.length ≤ 240) := le_nat _ 240
  have e2 : decide ((d.fB.length : Int) ≤ 240) = decide (d.fB.length ≤ 240) := le_nat _ 240
  have e3 : decide ((d.fP.length : Int) ≤ 200) = decide (d.fP.length ≤ 200) := le_nat _ 200
  simp only [spec_l9Record_eq, spec_DiskOk_loop hu hd, Option.bind_some, gt_not, e1, e2, e3, cond_true]
  cases h : M.recordOk d.fR with
  | false => cases decide (d.fA.length ≤ 240) <;> cases decide (d.fB.length ≤ 240) <;> rfl
  | true =>
    rw [spec_slot_eq u d (recordOk_slot h).1]
    simp only [Option.bind_some]
    cases decide (d.fA.length ≤ 240) <;> cases decide (d.fB.length ≤ 240) <;> cases decide (d.fR.fLen ≤ (M.slotOf d d.fR.fSlot).length) <;> cases decide (d.fP.length ≤ 200) <;> rfl
theorem diskOk_parts {d : Disk} (h : M.diskOk d = true) : M.recordOk d.fR = true ∧ d.fR.fLen ≤ (M.slotOf d d.fR.fSlot).length ∧ d.fA.length ≤ 240 ∧ d.fB.length ≤ 240 ∧ d.fP.length ≤ 200 := by
  unfold M.diskOk at h
  simp only [Bool.and_eq_true, decide_eq_true_eq] at h
  obtain ⟨⟨⟨⟨⟨h1, h2⟩, h3⟩, h4⟩, h5⟩, h6⟩ := h
  exact ⟨h3, h4, h1, h2, h5⟩
theorem grow_walk {ρ : Type} (J : List Int → Option ρ) (n : Int) (hn : n ≤ 1048576) (L : Nat → List Int → Option ρ) (hL : ∀ k x, L (k + 1) x = bif decide ((x.length : Int) < n) then ((chk (decide ((x.length + ([0] : List Int).length) * 1 ≤ 140737488355328))).bind fun _ => L k (x ++ [0])) else J x) :
    ∀ (m k : Nat) (x : List Int), (x.length + m = n.toNat ∨ (m = 0 ∧ n ≤ x.length)) → m < k → L k x = J (x ++ List.replicate m 0) := by
  intro m
  induction m with
  | zero =>
    intro k x h1 h2
    obtain ⟨k, rfl⟩ : ∃ j, k = j + 1 := ⟨k - 1, by omega⟩
    have e : ¬ ((x.length : Int) < n) := by omega
    rw [hL]; simp [e]
  | succ m ih =>
    intro k x h1 h2
    obtain ⟨k, rfl⟩ : ∃ j, k = j + 1 := ⟨k - 1, by omega⟩
    have e : (x.length : Int) < n := by omega
    rw [hL, chk_dec (by simp; omega)]
    simp only [e, decide_true, cond_true, Option.bind_some]
    rw [ih k _ (by simp; omega) (by omega), List.append_assoc]
    rfl
theorem wlist_push {α ρ : Type} {fin : List α → Option ρ} {body : α → Nat → List α → (List α → Option ρ) → Option ρ} (n : Nat) (p : List α) (hb : ∀ x i s k, x ∈ p → s.length + 1 ≤ n → body x i s k = k (s ++ [x])) :
    ∀ (l : List α) (i : Nat) (s : List α), (∀ x ∈ l, x ∈ p) → s.length + l.length ≤ n → wlist fin body l i s = fin (s ++ l) := by
  intro l
  induction l with
  | nil => intro i s _ _; simp [wlist]
  | cons x l ih =>
    intro i s h1 h2
    simp only [List.length_cons] at h2
    simp only [wlist]
    rw [hb x i s _ (h1 x (by simp)) (by omega), ih (i + 1) _ (fun y hy => h1 y (by simp [hy])) (by simp; omega)]
    simp
theorem spec_l9Copy_eq {u : Nat} (hu : 1099511627776 ≤ u) {d : Disk} (hd : M.DOk d) : spec_l9Copy u d = some d := by
  have h1 := hd.a
  have h2 := hd.b
  have h3 := hd.p
  unfold spec_l9Copy
  rw [chk_dec (by simp; omega), chk_dec (by simp; omega)]
  simp only [Option.bind_some]
  rw [spec_l9Copy_l2_w u d _ u (by omega) (by omega), wlist_push 1048576 d.fP _ d.fP 0 [] (fun _ h => h) (by simp; omega)]
  · rfl
  · intro x i s k hx hs
    have h4 := hd.puts x hx
    unfold spec_l9Copy_l2_b spec_l9CopyPut
    rw [chk_dec (by simp; omega)]
    simp only [Option.bind_some]
    rw [chk_dec (by simp; omega)]; rfl
theorem impl_copyDisk_eq {u : Nat} (hu : 1099511627776 ≤ u) {d : Disk} (hd : M.DOk d) : impl_copyDisk u d = some d := by
  have h1 := hd.a
  have h2 := hd.b
  have h3 := hd.p
  unfold impl_copyDisk
  rw [impl_cloned_eq u (show d.fA.length ≤ 1073741824 by omega), impl_cloned_eq u (show d.fB.length ≤ 1073741824 by omega)]
  simp only [Option.bind_some]
  rw [impl_copyDisk_l2_w u d d.fA d.fB _ u (by omega) (by omega), wlist_push 1048576 d.fP _ d.fP 0 [] (fun _ h => h) (by simp; omega)]
  · rfl
  · intro x i s k hx hs
    have h4 := hd.puts x hx
    unfold impl_copyDisk_l2_b impl_copyPut
    rw [impl_cloned_eq u (show x.fB.length ≤ 1073741824 by omega)]
    simp only [Option.bind_some]
    rw [chk_dec (by simp; omega)]; rfl
def M.lay (b : List Int) (a : Nat) (p : List Int) : List Int := overL (b ++ List.replicate (a + p.length - b.length) 0) p a
theorem overL_eq {x p : List Int} {a : Nat} (h : a + p.length ≤ x.length) : overL x p a = x.take a ++ p ++ x.drop (a + p.length) := by
  unfold overL
  rw [List.take_of_length_le (l := p) (by omega), Nat.min_eq_left (by omega)]
theorem lay_length (b : List Int) (a : Nat) (p : List Int) : (M.lay b a p).length = max b.length (a + p.length) := by
  unfold M.lay
  rw [overL_eq (by simp; omega)]
  simp
  omega
theorem lay_w (u : Nat) (a : Nat) (p : List Int) (ha : a ≤ 1048576) : ∀ (l : List Int) (i : Nat) (s : List Int), a + i + l.length ≤ s.length → s.length ≤ 4194304 → wlist (spec_l9Lay_l3_f u a p) (spec_l9Lay_l3_b u a p) l i s = some (s.take (a + i) ++ l ++ s.drop (a + i + l.length)) := by
  intro l
  induction l with
  | nil => intro i s _ _; simp [wlist, spec_l9Lay_l3_f, spec_l9Lay_j2]
  | cons y l ih =>
    intro i s h1 h2
    simp only [List.length_cons] at h1
    simp only [wlist, spec_l9Lay_l3_b]
    rw [bAdd_i64 (by omega) (by omega), show (a : Int) + (i : Int) = ((a + i : Nat) : Int) by omega, idx_nat, List.getElem?_eq_getElem (by omega), Int.toNat_natCast]
    simp only [Option.bind_some]
    rw [ih (i + 1) _ (by simp; omega) (by simp; omega)]
    have e1 : (s.set (a + i) y).take (a + (i + 1)) = s.take (a + i) ++ [y] := by
      rw [show a + (i + 1) = (a + i) + 1 by omega, List.take_add_one, List.take_set_of_le (Nat.le_refl _)]
      simp [show a + i < s.length by omega]
    have e2 : (s.set (a + i) y).drop (a + (i + 1) + l.length) = s.drop (a + i + (y :: l).length) := by
      rw [List.drop_set_of_lt (by omega)]; simp only [List.length_cons]; congr 1; omega
    rw [e1, e2]; simp
theorem spec_l9Lay_eq {u : Nat} (hu : 1099511627776 ≤ u) {b p : List Int} {a : Nat} (hb : b.length ≤ 1048576) (hp : a + p.length ≤ 1048576) : spec_l9Lay u b a p = some (M.lay b a p) := by
  unfold spec_l9Lay
  rw [chk_dec (by simp; omega)]
  simp only [Option.bind_some, List.nil_append]
  have e : bAdd .i64 (a : Int) (p.length : Int) = ((a + p.length : Nat) : Int) := by rw [bAdd_i64 (by omega) (by omega)]; omega
  rw [grow_walk (fun x => spec_l9Lay_j1 u a p x) ((a + p.length : Nat) : Int) (by omega) (fun k x => spec_l9Lay_l4 u k a p x) (fun k x => by rw [← e]; rfl) (a + p.length - b.length) u b (by rw [Int.toNat_natCast]; omega) (by omega)]
  unfold spec_l9Lay_j1
  rw [spec_l9Lay_l3_w u a p _ u (by omega) (by omega), lay_w u a p (by omega) p 0 _ (by simp; omega) (by simp; omega)]
  unfold M.lay
  rw [overL_eq (by simp; omega)]; simp
def M.onePut (d : Disk) (p : Put) : Disk := if p.fWhat = 2 then ⟨d.fA, d.fB, p.fR, d.fP⟩ else if p.fWhat = 0 then ⟨M.lay d.fA p.fAt.toNat p.fB, d.fB, d.fR, d.fP⟩ else ⟨d.fA, M.lay d.fB p.fAt.toNat p.fB, d.fR, d.fP⟩
theorem putOk_cases {p : Put} (h : M.putOk p = true) : p.fWhat = 2 ∨ ((p.fWhat = 0 ∨ p.fWhat = 1) ∧ 0 ≤ p.fAt ∧ p.fAt + p.fB.length ≤ 240) := by
  unfold M.putOk at h
  by_cases h2 : p.fWhat = 2
  · exact .inl h2
  · rw [if_neg h2] at h
    simp only [Bool.and_eq_true] at h
    have h3 := within_t h.1.1
    have h4 := within_t h.2
    exact .inr ⟨by omega, by omega, by omega⟩
theorem onePut_ok {d : Disk} {p : Put} (hd : M.DOk d) (h : M.putOk p = true) : M.DOk (M.onePut d p) := by
  have h1 := hd.a
  have h2 := hd.b
  unfold M.onePut
  rcases putOk_cases h with h | ⟨h3, h4, h5⟩
  · rw [if_pos h]; exact ⟨hd.a, hd.b, hd.p, hd.puts⟩
  · split
    · exact ⟨hd.a, hd.b, hd.p, hd.puts⟩
    · split
      · exact ⟨by rw [lay_length]; omega, hd.b, hd.p, hd.puts⟩
      · exact ⟨hd.a, by rw [lay_length]; omega, hd.p, hd.puts⟩
theorem spec_OnePut_eq {u : Nat} (hu : 1099511627776 ≤ u) {d : Disk} {p : Put} (hd : M.DOk d) (hp : p.fB.length ≤ 1048576) (h : M.putOk p = true) : spec_OnePut u d p = some (M.onePut d p) := by
  have h1 := hd.a
  have h2 := hd.b
  unfold spec_OnePut M.onePut
  rw [spec_l9Copy_eq hu hd, spec_l9Put_eq u hp, h]
  simp only [Option.bind_some, Bool.not_true, cond_false]
  rcases putOk_cases h with h | ⟨h3, h4, h5⟩
  · rw [h]; rfl
  · obtain ⟨a, ha⟩ := Int.eq_ofNat_of_zero_le h4
    rcases h3 with h3 | h3
    · rw [h3, ha, spec_l9Lay_eq hu h1 (by omega)]; rfl
    · rw [h3, ha, spec_l9Lay_eq hu h2 (by omega)]; rfl
theorem sub_grow (b : List Int) (a n : Nat) : chk (subOK (a : Int) (((b ++ List.replicate (a + n - b.length) (0 : Int)).length : Nat) : Int)) = some () := by
  have : subOK (a : Int) (((b ++ List.replicate (a + n - b.length) (0 : Int)).length : Nat) : Int) = true := by
    simp only [subOK, Bool.and_eq_true, decide_eq_true_eq, List.length_append, List.length_replicate]; omega
  rw [this]; rfl
theorem impl_perform_eq {u : Nat} (hu : 1099511627776 ≤ u) {d : Disk} {p : Put} (hd : M.DOk d) (h : M.putOk p = true) : impl_Disk__perform__own_p0_fP u d p = some (M.onePut d p) := by
  have h1 := hd.a
  have h2 := hd.b
  unfold impl_Disk__perform__own_p0_fP M.onePut impl_Disk__slot__own_p0_fA_p0_fB_p0_fP
  rcases putOk_cases h with h | ⟨h3, h4, h5⟩
  · rw [h]; rfl
  · obtain ⟨a, ha⟩ := Int.eq_ofNat_of_zero_le h4
    have e : bAdd .i64 (a : Int) (p.fB.length : Int) = ((a + p.fB.length : Nat) : Int) := by rw [bAdd_i64 (by omega) (by omega)]; omega
    rcases h3 with h3 | h3
    · rw [h3, ha]
      show impl_Disk__perform__own_p0_fP_l4 u u p d.fA (0, d) = some ⟨M.lay d.fA a p.fB, d.fB, d.fR, d.fP⟩
      rw [grow_walk (fun x => impl_Disk__perform__own_p0_fP_j3 u p x (0, d)) ((a + p.fB.length : Nat) : Int) (by omega) (fun k x => impl_Disk__perform__own_p0_fP_l4 u k p x (0, d)) (fun k x => by rw [← e, ← ha]; rfl) (a + p.fB.length - d.fA.length) u d.fA (by rw [Int.toNat_natCast]; omega) (by omega)]
      unfold impl_Disk__perform__own_p0_fP_j3
      rw [ha, sub_grow d.fA a p.fB.length]
      rfl
    · rw [h3, ha]
      show impl_Disk__perform__own_p0_fP_l2 u u p (1, d) d.fB = some ⟨d.fA, M.lay d.fB a p.fB, d.fR, d.fP⟩
      rw [grow_walk (fun x => impl_Disk__perform__own_p0_fP_j1 u p (1, d) x) ((a + p.fB.length : Nat) : Int) (by omega) (fun k x => impl_Disk__perform__own_p0_fP_l2 u k p (1, d) x) (fun k x => by rw [← e, ← ha]; rfl) (a + p.fB.length - d.fB.length) u d.fB (by rw [Int.toNat_natCast]; omega) (by omega)]
      unfold impl_Disk__perform__own_p0_fP_j1
      rw [ha, sub_grow d.fB a p.fB.length]
      rfl
def M.falls (s : Int) : List Put → Nat → Disk → Disk
  | [], _, d => ⟨d.fA, d.fB, d.fR, []⟩
  | p :: l, i, d => M.falls s l (i + 1) (if M.inSet s i then M.onePut d p else d)
def M.fall (d : Disk) (s : Int) : Disk := if M.diskOk d then M.falls s d.fP 0 d else d
theorem falls_ok (s : Int) : ∀ (l : List Put) (i : Nat) (d : Disk), (∀ p ∈ l, M.putOk p = true) → M.DOk d → M.DOk (M.falls s l i d) := by
  intro l
  induction l with
  | nil => intro i d _ hd; exact ⟨hd.a, hd.b, by simp [M.falls], by simp [M.falls]⟩
  | cons p l ih =>
    intro i d hp hd
    refine ih (i + 1) _ (fun q hq => hp q (by simp [hq])) ?_
    split
    · exact onePut_ok hd (hp p (by simp))
    · exact hd
theorem diskOk_puts {d : Disk} (h : M.diskOk d = true) : ∀ p ∈ d.fP, M.putOk p = true := by
  unfold M.diskOk at h
  simp only [Bool.and_eq_true] at h
  exact List.all_eq_true.1 h.2
theorem fall_ok {d : Disk} (hd : M.DOk d) (s : Int) : M.DOk (M.fall d s) := by
  unfold M.fall
  split
  · rename_i h; exact falls_ok s _ 0 d (diskOk_puts h) hd
  · exact hd
def tup (d : Disk) : List Int × List Int × Int × Int × Int × List Put := (d.fA, d.fB, d.fR.fGen, d.fR.fSlot, d.fR.fLen, d.fP)
theorem impl_Fall_w {u : Nat} (hu : 1099511627776 ≤ u) (s : Int) (d0 : Disk) : ∀ (l : List Put) (i : Nat) (d : Disk), (∀ p ∈ l, M.putOk p = true) → M.DOk d → wlist (impl_Disk__settled__impl_Fall_1_l2_f u s d0) (impl_Disk__settled__impl_Fall_1_l2_b u s d0) l i (tup d) = some (M.falls s l i d) := by
  intro l
  induction l with
  | nil => intro i d _ _; rfl
  | cons p l ih =>
    intro i d hp hd
    have h0 := hp p (by simp)
    simp only [wlist, impl_Disk__settled__impl_Fall_1_l2_b, impl_Disk__settled__impl_Fall_1_j3, impl_Fall_1, impl_InSet_eq, Option.bind_some, M.falls]
    cases hs : M.inSet s i with
    | true =>
      simp only [cond_true, if_true]
      rw [show (Disk.mk (tup d).1 (tup d).2.1 (Record.mk (tup d).2.2.1 (tup d).2.2.2.1 (tup d).2.2.2.2.1) (tup d).2.2.2.2.2) = d by rfl, impl_perform_eq hu hd h0]
      exact ih (i + 1) _ (fun q hq => hp q (by simp [hq])) (onePut_ok hd h0)
    | false =>
      simp only [cond_false, Bool.false_eq_true, if_false]
      exact ih (i + 1) _ (fun q hq => hp q (by simp [hq])) hd
theorem spec_Fall_w {u : Nat} (hu : 1099511627776 ≤ u) (s : Int) {d0 : Disk} (h0 : ∀ p ∈ d0.fP, M.putOk p = true ∧ p.fB.length ≤ 1048576) : ∀ (n i : Nat) (d : Disk), i + n = d0.fP.length → M.DOk d → walk (spec_Fall_l2_f u s d0) (spec_Fall_l2_b u s d0) n i (tup d) = some (M.falls s (d0.fP.drop i) i d) := by
  intro n
  induction n with
  | zero => intro i d h1 _; rw [List.drop_of_length_le (by omega)]; rfl
  | succ n ih =>
    intro i d h1 hd
    have hx := List.getElem?_eq_getElem (l := d0.fP) (i := i) (by omega)
    have h2 := h0 d0.fP[i] (List.getElem_mem (by omega))
    rw [List.drop_eq_getElem_cons (by omega)]
    simp only [walk, spec_Fall_l2_b, spec_Fall_j3, spec_InSet_eq, idx_nat, hx, Option.bind_some, M.falls]
    cases hs : M.inSet s i with
    | true =>
      simp only [cond_true, if_true]
      rw [show (Disk.mk (tup d).1 (tup d).2.1 (Record.mk (tup d).2.2.1 (tup d).2.2.2.1 (tup d).2.2.2.2.1) (tup d).2.2.2.2.2) = d by rfl, spec_OnePut_eq hu hd h2.2 h2.1]
      exact ih (i + 1) _ (by omega) (onePut_ok hd h2.1)
    | false =>
      simp only [cond_false, Bool.false_eq_true, if_false]
      exact ih (i + 1) _ (by omega) hd
theorem impl_Fall_eq {u : Nat} (hu : 1099511627776 ≤ u) {d : Disk} (hd : M.DOk d) (s : Int) : impl_Fall u d s = some (M.fall d s) := by
  have h3 := hd.p
  unfold impl_Fall impl_Disk__settled__impl_Fall_1 M.fall
  rw [impl_copyDisk_eq hu hd, impl_DiskOk_eq hu hd]
  simp only [Option.bind_some]
  cases h : M.diskOk d with
  | false => rfl
  | true =>
    simp only [Bool.not_true, cond_false, if_true]
    have e := impl_Fall_w hu s d d.fP 0 d (diskOk_puts h) hd
    rw [← impl_Disk__settled__impl_Fall_1_l2_w u s d (tup d) u (by omega) (by omega)] at e
    rw [show impl_Disk__settled__impl_Fall_1_l2 u u s d 0 d.fA d.fB d.fR.fGen d.fR.fSlot d.fR.fLen d.fP = _ from e]; rfl
theorem spec_Fall_eq {u : Nat} (hu : 1099511627776 ≤ u) {d : Disk} (hd : M.DOk d) (s : Int) : spec_Fall u d s = some (M.fall d s) := by
  have h3 := hd.p
  unfold spec_Fall M.fall
  rw [spec_l9Copy_eq hu hd, spec_DiskOk_eq hu hd]
  simp only [Option.bind_some]
  cases h : M.diskOk d with
  | false => rfl
  | true =>
    simp only [Bool.not_true, cond_false, if_true]
    have e := spec_Fall_w hu s (d0 := d) (fun p hp => ⟨diskOk_puts h p hp, hd.puts p hp⟩) d.fP.length 0 d (by omega) hd
    have e2 := spec_Fall_l2_w u s d (tup d) u (by omega) (by omega)
    rw [Int.toNat_natCast, e] at e2
    exact e2
structure Cu (c : l1Cur) : Prop where
  i0 : 0 ≤ c.fI
  n : c.fI ≤ (c.fB.length : Int)
  len : c.fB.length ≤ 1048576
def Dr {α : Type} (r : Option (α × l1Cur)) (p : α → Prop) : Prop := ∃ v c, r = some (v, c) ∧ p v ∧ Cu c
theorem Dr_mono {α : Type} {r : Option (α × l1Cur)} {p q : α → Prop} (h : Dr r p) (hpq : ∀ v, p v → q v) : Dr r q := by
  obtain ⟨v, c, e, h1, h2⟩ := h
  exact ⟨v, c, e, hpq v h1, h2⟩
theorem Dr_bind {α β : Type} {r : Option (α × l1Cur)} {p : α → Prop} {f : α × l1Cur → Option (β × l1Cur)} {q : β → Prop} (h : Dr r p) (hf : ∀ v c, p v → Cu c → Dr (f (v, c)) q) : Dr (r.bind f) q := by
  obtain ⟨v, c, e, h1, h2⟩ := h
  rw [e]
  exact hf v c h1 h2
theorem Dr_some {α : Type} {v : α} {c : l1Cur} {p : α → Prop} (h : p v) (hc : Cu c) : Dr (Option.some (v, c)) p := ⟨v, c, rfl, h, hc⟩
theorem and255 (a : Int) : 0 ≤ bAnd .i64 a 255 ∧ bAnd .i64 a 255 ≤ 255 := by
  unfold bAnd
  have h : (BitVec.ofInt 64 a &&& BitVec.ofInt 64 255).toNat ≤ 255 := by
    rw [BitVec.toNat_and]
    exact Nat.and_le_right
  have e : IntKind.wrap .i64 (((BitVec.ofInt 64 a &&& BitVec.ofInt 64 255).toNat : Nat) : Int) = (((BitVec.ofInt 64 a &&& BitVec.ofInt 64 255).toNat : Nat) : Int) := wrap_i64 (by omega) (by omega)
  show 0 ≤ IntKind.wrap .i64 (((BitVec.ofInt 64 a &&& BitVec.ofInt 64 255).toNat : Nat) : Int) ∧ IntKind.wrap .i64 (((BitVec.ofInt 64 a &&& BitVec.ofInt 64 255).toNat : Nat) : Int) ≤ 255
  rw [e]
  omega
theorem l1New_eq {u : Nat} (hu : 1099511627776 ≤ u) {code : List Int} (h : code.length ≤ 1048576) : ∃ c, spec_l1New u code = some c ∧ Cu c := by
  have key : ∀ (m k i : Nat) (x : Int), i + m = code.length → m < k → ∃ c, spec_l1New_l2 u k code x (i : Int) = some c ∧ Cu c := by
    intro m
    induction m with
    | zero =>
      intro k i x hi hk
      obtain ⟨k, rfl⟩ : ∃ j, k = j + 1 := ⟨k - 1, by omega⟩
      unfold spec_l1New_l2
      have : ¬ ((i : Int) < (code.length : Int)) := by omega
      simp only [this, decide_false, cond_false, spec_l1New_j3, spec_l1New_j1]
      exact ⟨_, rfl, ⟨Int.le_refl 0, Int.natCast_nonneg _, h⟩⟩
    | succ m ih =>
      intro k i x hi hk
      obtain ⟨k, rfl⟩ : ∃ j, k = j + 1 := ⟨k - 1, by omega⟩
      unfold spec_l1New_l2
      have hlt : (i : Int) < (code.length : Int) := by omega
      simp only [hlt, decide_true, cond_true, spec_l1New_j3]
      by_cases h4 : (i : Int) < 4000
      · simp only [h4, decide_true, cond_true, idx_nat]
        obtain ⟨y, hy⟩ : ∃ y, code[i]? = some y := ⟨code[i], List.getElem?_eq_getElem (by omega)⟩
        rw [hy]
        simp only [Option.bind_some]
        rw [bAdd_succ (by omega)]
        exact ih k (i + 1) _ (by omega) (by omega)
      · simp only [h4, decide_false, cond_false, spec_l1New_j1]
        exact ⟨_, rfl, ⟨Int.le_refl 0, Int.natCast_nonneg _, h⟩⟩
  exact key code.length u 0 _ (by omega) (by omega)
theorem l1Byte_dr (u : Nat) {c : l1Cur} (hc : Cu c) : Dr (spec_l1Byte u c) (fun v => 0 ≤ v ∧ v ≤ 255) := by
  have h0 := hc.i0
  have h1 := hc.n
  have h2 := hc.len
  unfold spec_l1Byte
  by_cases h : c.fI < (c.fB.length : Int)
  · simp only [h, decide_true, cond_true]
    obtain ⟨i, hi⟩ : ∃ i : Nat, c.fI = (i : Int) := ⟨c.fI.toNat, by omega⟩
    rw [hi, idx_nat, List.getElem?_eq_getElem (by omega)]
    simp only [Option.bind_some, spec_l1Byte_j1]
    exact Dr_some (and255 _) ⟨by show 0 ≤ bAdd .i64 (i : Int) 1; rw [bAdd_succ (by omega)]; omega, by show bAdd .i64 (i : Int) 1 ≤ (c.fB.length : Int); rw [bAdd_succ (by omega)]; omega, h2⟩
  · simp only [h, decide_false, cond_false, spec_l1Byte_j1]
    exact Dr_some (and255 _) ⟨h0, h1, h2⟩
theorem l1Below_dr (u : Nat) {c : l1Cur} (hc : Cu c) (n : Int) : Dr (spec_l1Below u c n) (fun v => 0 ≤ v ∧ (0 < n → v < n)) := by
  unfold spec_l1Below
  by_cases h : n ≤ 0
  · simp only [h, decide_true, cond_true]
    exact Dr_some ⟨Int.le_refl 0, fun h' => by omega⟩ hc
  · have hn : (!(n == 0)) = true := by simp; omega
    have hr : ∀ a : Int, 0 ≤ a → 0 ≤ bRem .i64 a n ∧ (0 < n → bRem .i64 a n < n) := fun a ha => by
      rw [bRem_pos ha]
      exact ⟨Int.emod_nonneg _ (by omega), fun _ => Int.emod_lt_of_pos _ (by omega)⟩
    simp only [h, decide_false, cond_false]
    by_cases h2 : n ≤ 256
    · simp only [h2, decide_true, cond_true]
      refine Dr_bind (l1Byte_dr u hc) fun v c' hv hc' => ?_
      rw [hn]
      exact Dr_some (hr v hv.1) hc'
    · simp only [h2, decide_false, cond_false]
      refine Dr_bind (l1Byte_dr u hc) fun v c' hv hc' => ?_
      refine Dr_bind (l1Byte_dr u hc') fun v2 c2 hv2 hc2 => ?_
      refine Dr_bind (l1Byte_dr u hc2) fun v3 c3 hv3 hc3 => ?_
      rw [hn]
      refine Dr_some (hr _ ?_) hc3
      simp only
      rw [bMul_i64 (by omega) (by omega), bMul_i64 (by omega) (by omega), bAdd_i64 (a := v * 65536) (b := v2 * 256) (by omega) (by omega), bAdd_i64 (by omega) (by omega)]
      omega
theorem l1Once_dr (u : Nat) {c : l1Cur} (hc : Cu c) (n : Int) : Dr (spec_l1Once u c n) (fun _ => True) := by
  unfold spec_l1Once
  exact Dr_bind (l1Below_dr u hc n) fun v c' _ hc' => Dr_some trivial hc'
theorem l1Int_dr (u : Nat) {c : l1Cur} (hc : Cu c) {xs : List Int} (hx : 0 < xs.length) : Dr (spec_l1Int u c xs) (fun v => v ∈ xs) := by
  unfold spec_l1Int
  refine Dr_bind (l1Below_dr u hc _) fun v c' hv hc' => ?_
  have hlt := hv.2 (by omega)
  obtain ⟨i, hi⟩ : ∃ i : Nat, v = (i : Int) := ⟨v.toNat, by omega⟩
  subst hi
  have hi : i < xs.length := by omega
  simp only [idx_nat, List.getElem?_eq_getElem hi, Option.bind_some]
  exact Dr_some (List.getElem_mem hi) hc'
theorem l3Bytes_dr {u : Nat} (hu : 1099511627776 ≤ u) {c : l1Cur} (hc : Cu c) {n : Nat} (hn : n ≤ 1000) : Dr (spec_l3Bytes u c (n : Int)) (fun v => v.length ≤ n) := by
  unfold spec_l3Bytes
  rw [bAdd_succ (by omega)]
  refine Dr_bind (l1Below_dr u hc _) fun v c1 hv hc1 => ?_
  have hlt := hv.2 (by omega)
  obtain ⟨m, hm⟩ : ∃ m : Nat, v = (m : Int) := ⟨v.toNat, by omega⟩
  subst hm
  have key : ∀ (m k : Nat) (x : List Int) (c : l1Cur), m < k → Cu c → x.length + m ≤ 1000 → Dr (spec_l3Bytes_l2 u k x (m : Int) c.fB c.fI c.fH) (fun v => v.length ≤ x.length + m) := by
    intro m
    induction m with
    | zero =>
      intro k x c hk hc hx
      obtain ⟨k, rfl⟩ : ∃ j, k = j + 1 := ⟨k - 1, by omega⟩
      unfold spec_l3Bytes_l2
      simp only [Int.natCast_zero, gt_iff_lt, Int.lt_irrefl, decide_false, cond_false, spec_l3Bytes_j1]
      exact Dr_some (Nat.le_refl _) hc
    | succ m ih =>
      intro k x c hk hc hx
      obtain ⟨k, rfl⟩ : ∃ j, k = j + 1 := ⟨k - 1, by omega⟩
      unfold spec_l3Bytes_l2
      have : ((m + 1 : Nat) : Int) > 0 := by omega
      simp only [this, decide_true, cond_true]
      refine Dr_bind (l1Int_dr u hc (xs := [97, 98, 99, 0, 255]) (by simp)) fun v c2 hv hc2 => ?_
      rw [chk_dec (by simp; omega)]
      simp only [Option.bind_some]
      rw [bSub_i64 (by omega) (by omega)]
      have e : ((m + 1 : Nat) : Int) - 1 = (m : Int) := by omega
      rw [e]
      refine Dr_mono (ih k _ c2 (by omega) hc2 (by simp; omega)) fun v h => ?_
      simp only [List.length_append, List.length_cons, List.length_nil] at h
      omega
  refine Dr_mono (key m u [] c1 (by omega) hc1 (by simp; omega)) fun v h => ?_
  simp only [List.length_nil] at h
  omega
theorem diskOk_dok {d : Disk} (h : M.diskOk d = true) : M.DOk d := by
  have h1 := diskOk_parts h
  refine ⟨by omega, by omega, by omega, fun x hx => ?_⟩
  have h2 := diskOk_puts h x hx
  rcases putOk_cases h2 with h3 | ⟨_, h3, h4⟩
  · unfold M.putOk at h2
    rw [if_pos h3] at h2
    simp only [Bool.and_eq_true, beq_iff_eq] at h2
    omega
  · omega
theorem DiskNew_eq (u : Nat) {g : Int} {b : List Int} (h0 : 0 ≤ g) (h1 : g ≤ 1000000) (hb : b.length ≤ 240) : spec_DiskNew u g b = some ⟨b, [], ⟨g, 0, b.length⟩, []⟩ ∧ M.diskOk ⟨b, [], ⟨g, 0, b.length⟩, []⟩ = true := by
  refine ⟨?_, ?_⟩
  · unfold spec_DiskNew
    have hw : M.within g 0 1000000 = true := by simp [M.within, h0, h1]
    rw [spec_l1In_eq, hw]
    simp only [Option.bind_some, Bool.not_true, cond_false]
    have : ¬ ((b.length : Int) > 240) := by omega
    simp only [this, decide_false, spec_DiskNew_j1, cond_false]
    rw [chk_dec (by simp; omega)]
    simp
  · simp [M.diskOk, M.recordOk, M.within, M.slotOf, h0, h1, hb]
    omega
def M.addPut (d : Disk) (p : Put) : Disk := ⟨d.fA, d.fB, d.fR, d.fP ++ [p]⟩
theorem l9CopyPut_eq (u : Nat) {p : Put} (h : p.fB.length ≤ 1048576) : spec_l9CopyPut u p = some p := by
  unfold spec_l9CopyPut
  rw [chk_dec (by simp; omega)]
  simp
theorem addPut_ok {d : Disk} {p : Put} (hd : M.DOk d) (hl : d.fP.length ≤ 1048575) (hp : p.fB.length ≤ 1048576) : M.DOk (M.addPut d p) :=
  ⟨hd.a, hd.b, by simp [M.addPut]; omega, fun x hx => by
    rcases List.mem_append.1 hx with h | h
    · exact hd.puts x h
    · simp at h; subst h; exact hp⟩
theorem spec_l9Add_eq {u : Nat} (hu : 1099511627776 ≤ u) {d : Disk} {p : Put} (hd : M.DOk d) (hl : d.fP.length ≤ 1048575) (hp : p.fB.length ≤ 1048576) :
    spec_l9Add u d p = some (if M.diskOk (M.addPut d p) then (M.addPut d p, true) else (d, false)) := by
  have hap := hd.p
  unfold spec_l9Add
  rw [spec_l9Copy_eq hu hd]
  simp only [Option.bind_some]
  rw [l9CopyPut_eq u hp]
  simp only [Option.bind_some]
  rw [chk_dec (by simp; omega)]
  simp only [Option.bind_some]
  have e : (Disk.mk d.fA d.fB d.fR (d.fP ++ [p])) = M.addPut d p := rfl
  rw [e, spec_DiskOk_eq hu (addPut_ok hd hl hp)]
  simp only [Option.bind_some]
  cases h : M.diskOk (M.addPut d p) <;> simp
def M.lays : List Put → Disk → Disk
  | [], d => ⟨d.fA, d.fB, d.fR, []⟩
  | p :: l, d => M.lays l (M.onePut d p)
def M.sure (d : Disk) : Disk := if M.diskOk d then M.lays d.fP d else d
theorem lays_ok : ∀ (l : List Put) (d : Disk), (∀ p ∈ l, M.putOk p = true) → M.DOk d → M.DOk (M.lays l d)
  | [], d, _, hd => ⟨hd.a, hd.b, by simp [M.lays], by simp [M.lays]⟩
  | p :: l, d, hp, hd => lays_ok l _ (fun q hq => hp q (by simp [hq])) (onePut_ok hd (hp p (by simp)))
theorem sure_ok {d : Disk} (hd : M.DOk d) : M.DOk (M.sure d) := by
  unfold M.sure
  cases h : M.diskOk d with
  | true => exact lays_ok _ _ (diskOk_puts h) hd
  | false => exact hd
theorem spec_Sure_w {u : Nat} (hu : 1099511627776 ≤ u) (d0 : Disk) : ∀ (l : List Put) (i : Nat) (d : Disk), (∀ p ∈ l, M.putOk p = true ∧ p.fB.length ≤ 1048576) → M.DOk d → wlist (spec_Sure_l2_f u d0) (spec_Sure_l2_b u d0) l i (tup d) = some (M.lays l d) := by
  intro l
  induction l with
  | nil => intro i d _ _; rfl
  | cons p l ih =>
    intro i d hp hd
    obtain ⟨h1, h2⟩ := hp p (by simp)
    show (spec_OnePut u d p).bind (fun r25 => wlist (spec_Sure_l2_f u d0) (spec_Sure_l2_b u d0) l (i + 1) (tup r25)) = _
    rw [spec_OnePut_eq hu hd h2 h1]
    exact ih (i + 1) _ (fun q hq => hp q (by simp [hq])) (onePut_ok hd h1)
theorem spec_Sure_eq {u : Nat} (hu : 1099511627776 ≤ u) {d : Disk} (hd : M.DOk d) : spec_Sure u d = some (M.sure d) := by
  have h3 := hd.p
  unfold spec_Sure M.sure
  rw [spec_l9Copy_eq hu hd, spec_DiskOk_eq hu hd]
  simp only [Option.bind_some]
  cases h : M.diskOk d with
  | false => rfl
  | true =>
    simp only [Bool.not_true, cond_false, if_true]
    have := spec_Sure_l2_w u d (tup d) u (by omega) (by omega)
    exact this.trans (spec_Sure_w hu d d.fP 0 d (fun p hp => ⟨diskOk_puts h p hp, hd.puts p hp⟩) hd)
theorem l9OnePut_dr {u : Nat} (hu : 1099511627776 ≤ u) {c : l1Cur} (hc : Cu c) : Dr (spec_l9OnePut u c) (fun p => p.fB.length ≤ 5) := by
  unfold spec_l9OnePut
  refine Dr_bind (l1Once_dr u hc 4) fun b c1 _ h1 => ?_
  cases b with
  | true =>
    simp only [cond_true]
    refine Dr_bind (l1Below_dr u h1 4) fun v2 c2 _ h2 => ?_
    refine Dr_bind (l1Below_dr u h2 2) fun v3 c3 _ h3 => ?_
    refine Dr_bind (l1Below_dr u h3 6) fun v4 c4 _ h4 => ?_
    exact Dr_some (by simp) h4
  | false =>
    simp only [cond_false]
    refine Dr_bind (l1Below_dr u h1 2) fun v2 c2 _ h2 => ?_
    refine Dr_bind (l1Below_dr u h2 9) fun v3 c3 _ h3 => ?_
    refine Dr_bind (l3Bytes_dr hu h3 (n := 5) (by omega)) fun v4 c4 hv h4 => ?_
    exact Dr_some hv h4
theorem l9Draw_dr {u : Nat} (hu : 1099511627776 ≤ u) {c : l1Cur} (hc : Cu c) : Dr (spec_l9Draw u c) (fun d => M.diskOk d = true) := by
  unfold spec_l9Draw
  refine Dr_bind (l1Below_dr u hc 3) fun g c1 hg h1 => ?_
  refine Dr_bind (l3Bytes_dr hu h1 (n := 9) (by omega)) fun b c2 hb h2 => ?_
  have hg2 := hg.2 (by omega)
  obtain ⟨e1, e2⟩ := DiskNew_eq u hg.1 (by omega) (b := b) (by omega)
  simp only [e1, Option.bind_some]
  refine Dr_bind (l1Below_dr u h2 5) fun n c3 hn h3 => ?_
  obtain ⟨m, hm⟩ : ∃ m : Nat, n = (m : Int) := ⟨n.toNat, by omega⟩
  subst hm
  have hm5 := hn.2 (by omega)
  have key : ∀ (m k : Nat) (d : Disk) (c : l1Cur), m < k → m ≤ 5 → M.diskOk d = true → Cu c → Dr (spec_l9Draw_l2 u k (m : Int) d.fA d.fB d.fR.fGen d.fR.fSlot d.fR.fLen d.fP c.fB c.fI c.fH) (fun d => M.diskOk d = true) := by
    intro m
    induction m with
    | zero =>
      intro k d c hk _ hd hc
      obtain ⟨k, rfl⟩ : ∃ j, k = j + 1 := ⟨k - 1, by omega⟩
      unfold spec_l9Draw_l2
      simp only [Int.natCast_zero, gt_iff_lt, Int.lt_irrefl, decide_false, cond_false, spec_l9Draw_j1]
      exact Dr_some hd hc
    | succ m ih =>
      intro k d c hk hm hd hc
      obtain ⟨k, rfl⟩ : ∃ j, k = j + 1 := ⟨k - 1, by omega⟩
      unfold spec_l9Draw_l2
      have : ((m + 1 : Nat) : Int) > 0 := by omega
      simp only [this, decide_true, cond_true]
      refine Dr_bind (l9OnePut_dr hu hc) fun p c1 hp h1 => ?_
      have hD := diskOk_dok hd
      have hpl := diskOk_parts hd
      have e : (Disk.mk d.fA d.fB (Record.mk d.fR.fGen d.fR.fSlot d.fR.fLen) d.fP) = d := rfl
      rw [e, spec_l9Add_eq hu hD (p := p) (by omega) (by omega)]
      simp only [Option.bind_some]
      obtain ⟨d', b', hd', hif⟩ : ∃ d' b', M.diskOk d' = true ∧ (if M.diskOk (M.addPut d p) = true then (M.addPut d p, true) else (d, false)) = (d', b') := by
        cases h : M.diskOk (M.addPut d p) with
        | true => exact ⟨_, true, h, rfl⟩
        | false => exact ⟨_, false, hd, rfl⟩
      rw [hif]
      simp only
      rw [spec_Sure_eq hu (diskOk_dok hd')]
      simp only [Option.bind_some]
      refine Dr_bind (l1Once_dr u h1 5) fun o c2 _ h2 => ?_
      have hs : (bSub .i64 ((m + 1 : Nat) : Int) 1) = (m : Int) := by rw [bSub_i64 (by omega) (by omega)]; omega
      cases o with
      | true =>
        simp only [cond_true]
        rw [spec_DiskOk_eq hu (sure_ok (diskOk_dok hd'))]
        simp only [Option.bind_some, spec_l9Draw_j4, spec_l9Draw_j3, hs]
        cases hx : M.diskOk (M.sure d') with
        | true => exact ih k _ c2 (by omega) (by omega) hx h2
        | false => exact ih k _ c2 (by omega) (by omega) hd' h2
      | false =>
        simp only [cond_false, spec_l9Draw_j4, spec_l9Draw_j3, hs]
        exact ih k _ c2 (by omega) (by omega) hd' h2
  exact key m u _ c3 (by omega) (by omega) e2 h3
theorem l9Any_dr {u : Nat} (hu : 1099511627776 ≤ u) {c : l1Cur} (hc : Cu c) : Dr (spec_l9Any u c) (fun d => M.DOk d ∧ d.fP.length ≤ 201) := by
  unfold spec_l9Any
  refine Dr_bind (l9Draw_dr hu hc) fun d c1 hd h1 => ?_
  have hD := diskOk_dok hd
  have hl := diskOk_parts hd
  have hok : ∀ r, M.DOk ⟨d.fA, d.fB, r, d.fP⟩ ∧ d.fP.length ≤ 201 := fun r => ⟨⟨hD.a, hD.b, hD.p, hD.puts⟩, by omega⟩
  refine Dr_bind (l1Below_dr u h1 12) fun n c2 _ h2 => ?_
  simp only
  cases n == 0 with
  | true =>
    simp only [cond_true]
    refine Dr_bind (l1Int_dr u h2 (by simp)) fun x c3 _ h3 => ?_
    exact Dr_some (hok _) h3
  | false =>
    simp only [cond_false]
    cases n == 1 with
    | true =>
      simp only [cond_true]
      refine Dr_bind (l1Int_dr u h2 (by simp)) fun x c3 _ h3 => ?_
      exact Dr_some (hok _) h3
    | false =>
      simp only [cond_false]
      cases n == 2 with
      | true =>
        simp only [cond_true]
        refine Dr_bind (l1Int_dr u h2 (by simp)) fun x c3 _ h3 => ?_
        exact Dr_some (hok _) h3
      | false =>
        simp only [cond_false]
        cases n == 3 with
        | true =>
          simp only [cond_true]
          refine Dr_bind (l1Int_dr u h2 (by simp)) fun x c3 _ h3 => ?_
          refine Dr_bind (l1Int_dr u h3 (by simp)) fun y c4 _ h4 => ?_
          rw [chk_dec (by simp; omega)]
          simp only [Option.bind_some, spec_l9Any_j1]
          refine Dr_some ⟨addPut_ok hD (by omega) (p := ⟨x, y, [1], ⟨0, 0, 0⟩⟩) (by simp), by simp; omega⟩ h4
        | false => exact Dr_some (hok _) h2
theorem DrawDisk_eq {u : Nat} (hu : 1099511627776 ≤ u) {code : List Int} (h : code.length ≤ 1048576) : ∃ d, spec_DrawDisk u code = some d ∧ M.diskOk d = true := by
  obtain ⟨c, e, hc⟩ := l1New_eq hu h
  obtain ⟨d, c', e2, hd, _⟩ := l9Draw_dr hu hc
  exact ⟨d, by unfold spec_DrawDisk; rw [e]; simp only [Option.bind_some]; rw [e2]; rfl, hd⟩
theorem laws_same_refl {u : Nat} (hu : 1099511627776 ≤ u) {a : List Int} (h : a.length ≤ 1048576) : laws_same u a a = some true := by
  unfold laws_same
  simp only [bne_self_eq_false, cond_false]
  rw [laws_same_l2_w u a a () u (by omega) (by omega), wlist_all (fun x i k hx => by unfold laws_same_l2_b; rw [idx_nat, hx]; simp only [Option.bind_some, bne_self_eq_false, cond_false]) a 0 rfl]
  rfl
theorem laws_sameDisk_refl {u : Nat} (hu : 1099511627776 ≤ u) {d : Disk} (h : M.DOk d) : laws_sameDisk u d d = some true := by
  have hp := h.p
  unfold laws_sameDisk
  rw [laws_same_refl hu h.a, laws_same_refl hu h.b]
  simp only [Option.bind_some, Bool.not_true, cond_false, beq_self_eq_true, bne_self_eq_false, laws_sameDisk_j1]
  rw [laws_sameDisk_l3_w u d d () u (by omega) (by omega), wlist_all (fun x i k hx => by
    unfold laws_sameDisk_l3_b
    rw [idx_nat, hx]
    have hb := h.puts x (List.mem_of_getElem? hx)
    simp only [Option.bind_some, bne_self_eq_false, beq_self_eq_true, Bool.not_true, cond_false, laws_sameDisk_j4, laws_same_refl hu hb]) d.fP 0 rfl]
  rfl
def M.onePutA (d : Disk) (p : Put) : Disk := if M.putOk p then M.onePut d p else d
theorem onePutA_ok {d : Disk} {p : Put} (hd : M.DOk d) : M.DOk (M.onePutA d p) := by
  unfold M.onePutA
  cases h : M.putOk p with
  | true => exact onePut_ok hd h
  | false => exact hd
theorem impl_OnePut_all {u : Nat} (hu : 1099511627776 ≤ u) {d : Disk} {p : Put} (hd : M.DOk d) (hp : p.fB.length ≤ 1048576) : impl_OnePut u d p = some (M.onePutA d p) := by
  unfold impl_OnePut M.onePutA
  rw [impl_copyDisk_eq hu hd, impl_isPut_eq u hp]
  simp only [Option.bind_some]
  cases h : M.putOk p with
  | true =>
    simp only [cond_true, if_true]
    rw [impl_perform_eq hu hd h]
    rfl
  | false => rfl
theorem spec_OnePut_all {u : Nat} (hu : 1099511627776 ≤ u) {d : Disk} {p : Put} (hd : M.DOk d) (hp : p.fB.length ≤ 1048576) : spec_OnePut u d p = some (M.onePutA d p) := by
  unfold M.onePutA
  cases h : M.putOk p with
  | true => exact spec_OnePut_eq hu hd hp h
  | false =>
    unfold spec_OnePut
    rw [spec_l9Copy_eq hu hd, spec_l9Put_eq u hp, h]
    rfl
theorem impl_Sure_w {u : Nat} (hu : 1099511627776 ≤ u) (d0 : Disk) : ∀ (l : List Put) (i : Nat) (d : Disk), (∀ p ∈ l, M.putOk p = true) → M.DOk d → wlist (impl_Disk__settled__impl_Sure_1_l2_f u d0) (impl_Disk__settled__impl_Sure_1_l2_b u d0) l i (tup d) = some (M.lays l d) := by
  intro l
  induction l with
  | nil => intro i d _ _; rfl
  | cons p l ih =>
    intro i d hp hd
    have h0 := hp p (by simp)
    simp only [wlist, impl_Disk__settled__impl_Sure_1_l2_b, impl_Disk__settled__impl_Sure_1_j3, impl_Sure_1, Option.bind_some, cond_true, M.lays]
    rw [show (Disk.mk (tup d).1 (tup d).2.1 (Record.mk (tup d).2.2.1 (tup d).2.2.2.1 (tup d).2.2.2.2.1) (tup d).2.2.2.2.2) = d by rfl, impl_perform_eq hu hd h0]
    exact ih (i + 1) _ (fun q hq => hp q (by simp [hq])) (onePut_ok hd h0)
theorem impl_Sure_eq {u : Nat} (hu : 1099511627776 ≤ u) {d : Disk} (hd : M.DOk d) : impl_Sure u d = some (M.sure d) := by
  have h3 := hd.p
  unfold impl_Sure impl_Disk__settled__impl_Sure_1 M.sure
  rw [impl_copyDisk_eq hu hd, impl_DiskOk_eq hu hd]
  simp only [Option.bind_some]
  cases h : M.diskOk d with
  | false => rfl
  | true =>
    simp only [Bool.not_true, cond_false, if_true]
    have e := impl_Sure_w hu d d.fP 0 d (diskOk_puts h) hd
    rw [← impl_Disk__settled__impl_Sure_1_l2_w u d (tup d) u (by omega) (by omega)] at e
    rw [show impl_Disk__settled__impl_Sure_1_l2 u u d 0 d.fA d.fB d.fR.fGen d.fR.fSlot d.fR.fLen d.fP = _ from e]; rfl
theorem impl_copyPut_eq (u : Nat) {p : Put} (h : p.fB.length ≤ 1048576) : impl_copyPut u p = some p := by
  unfold impl_copyPut impl_cloned
  have h0 : (0 : Int) ≤ (p.fB.length : Int) := Int.natCast_nonneg _
  simp only [h0, decide_true, beq_self_eq_true, Bool.true_or, Bool.and_self, chk_true, Option.bind_some]
  rw [chk_dec (by simp; omega), Option.bind_some, chk_dec (by simp; omega)]
  simp
theorem impl_with_eq {u : Nat} (hu : 1099511627776 ≤ u) {d : Disk} {p : Put} (hd : M.DOk d) (hl : d.fP.length ≤ 1048575) (hp : p.fB.length ≤ 1048576) :
    impl_Disk__with u d p = some (if M.diskOk (M.addPut d p) then (M.addPut d p, true) else (d, false)) := by
  have hap := hd.p
  unfold impl_Disk__with
  rw [impl_copyDisk_eq hu hd]
  simp only [Option.bind_some]
  rw [impl_copyPut_eq u hp]
  simp only [Option.bind_some]
  rw [chk_dec (by simp; omega)]
  simp only [Option.bind_some]
  have e : (Disk.mk d.fA d.fB d.fR (d.fP ++ [p])) = M.addPut d p := rfl
  rw [e, impl_DiskOk_eq hu (addPut_ok hd hl hp)]
  simp only [Option.bind_some]
  cases h : M.diskOk (M.addPut d p) <;> simp
theorem added_ok {d : Disk} {p : Put} (hd : M.DOk d) (hl : d.fP.length ≤ 1048575) (hp : p.fB.length ≤ 1048576) : ∃ e b, (if M.diskOk (M.addPut d p) = true then (M.addPut d p, true) else (d, false)) = (e, b) ∧ M.DOk e := by
  cases h : M.diskOk (M.addPut d p) with
  | true => exact ⟨_, _, rfl, addPut_ok hd hl hp⟩
  | false => exact ⟨_, _, rfl, hd⟩
theorem PutBytes_same {u : Nat} (hu : 1099511627776 ≤ u) {d : Disk} (hd : M.DOk d) (hl : d.fP.length ≤ 1048575) {b : List Int} (hb : b.length ≤ 1048576) (s a : Int) : ∃ e x, impl_PutBytes u d s a b = some (e, x) ∧ spec_PutBytes u d s a b = some (e, x) ∧ M.DOk e := by
  unfold impl_PutBytes spec_PutBytes
  rw [impl_isSlot_eq, spec_l1In_eq]
  simp only [Option.bind_some]
  cases M.within s 0 1 with
  | false =>
    simp only [Bool.not_false, cond_true]
    rw [impl_copyDisk_eq hu hd, spec_l9Copy_eq hu hd]
    exact ⟨_, _, rfl, rfl, hd⟩
  | true =>
    simp only [Bool.not_true, cond_false]
    rw [impl_with_eq hu hd hl (p := ⟨s, a, b, ⟨0, 0, 0⟩⟩) hb, spec_l9Add_eq hu hd hl (p := ⟨s, a, b, ⟨0, 0, 0⟩⟩) hb]
    obtain ⟨e, x, h1, h2⟩ := added_ok hd hl (p := ⟨s, a, b, ⟨0, 0, 0⟩⟩) hb
    rw [h1]
    exact ⟨_, _, rfl, rfl, h2⟩
theorem PutRecord_same {u : Nat} (hu : 1099511627776 ≤ u) {d : Disk} (hd : M.DOk d) (hl : d.fP.length ≤ 1048575) (r : Record) : ∃ e x, impl_PutRecord u d r = some (e, x) ∧ spec_PutRecord u d r = some (e, x) ∧ M.DOk e := by
  unfold impl_PutRecord spec_PutRecord
  rw [impl_with_eq hu hd hl (p := ⟨2, 0, [], r⟩) (by simp), spec_l9Add_eq hu hd hl (p := ⟨2, 0, [], r⟩) (by simp)]
  obtain ⟨e, x, h1, h2⟩ := added_ok hd hl (p := ⟨2, 0, [], r⟩) (by simp)
  rw [h1]
  exact ⟨_, _, rfl, rfl, h2⟩
theorem DiskNew_same {u : Nat} (g : Int) {b : List Int} (hb : b.length ≤ 1048576) : ∃ e, impl_DiskNew u g b = some e ∧ spec_DiskNew u g b = some e ∧ M.DOk e := by
  unfold impl_DiskNew spec_DiskNew impl_isGen
  rw [impl_within_eq, spec_l1In_eq]
  simp only [Option.bind_some]
  have h0 : (0 : Int) ≤ (b.length : Int) := Int.natCast_nonneg _
  have key : ∀ x : Bool, ∃ e, impl_DiskNew_j1 u g b x = some e ∧ spec_DiskNew_j1 u g b x = some e ∧ M.DOk e := by
    intro x
    unfold impl_DiskNew_j1 spec_DiskNew_j1 impl_cloned
    cases x with
    | true => exact ⟨_, rfl, rfl, ⟨by simp, by simp, by simp, by simp⟩⟩
    | false =>
      simp only [cond_false, h0, decide_true, beq_self_eq_true, Bool.true_or, Bool.and_self, chk_true, Option.bind_some]
      rw [chk_dec (by simp; omega), Option.bind_some, chk_dec (by simp; omega), chk_dec (by simp; omega)]
      exact ⟨⟨b, [], ⟨g, 0, b.length⟩, []⟩, by simp, by simp, ⟨hb, by simp, by simp, by simp⟩⟩
  cases M.within g 0 1000000 with
  | true => simp only [Bool.not_true, cond_false]; exact key _
  | false => simp only [Bool.not_false, cond_true]; exact key _
theorem impl_FullSet_eq (u : Nat) {n : Nat} (h : n ≤ 40) : impl_FullSet u n = some ((2 ^ n - 1 : Nat) : Int) := by
  unfold impl_FullSet
  have h1 : M.within (n : Int) 0 40 = true := by simp [M.within]; omega
  rw [impl_within_eq, h1]
  simp only [Option.bind_some, Bool.not_true, cond_false]
  have h2 : (2 : Nat) ^ n ≤ 2 ^ 40 := Nat.pow_le_pow_right (by omega) h
  have h3 : 0 < (2 : Nat) ^ n := Nat.pow_pos (by omega)
  rw [chk_dec (by omega), bShl1_nat (by omega)]
  generalize (2 : Nat) ^ n = p at *
  rw [bSub_i64 (by omega) (by omega)]
  simp only [Option.bind_some]
  congr 1
  omega
theorem inSet_full {n i : Nat} (hn : n ≤ 40) (hi : i < n) : M.inSet ((2 ^ n - 1 : Nat) : Int) (i : Int) = true := by
  unfold M.inSet
  have h2 : (2 : Nat) ^ n ≤ 2 ^ 40 := Nat.pow_le_pow_right (by omega) hn
  have h3 : 0 < (2 : Nat) ^ n := Nat.pow_pos (by omega)
  have ha : M.setOk ((2 ^ n - 1 : Nat) : Int) = true := by
    simp only [M.setOk, M.within, Bool.and_eq_true, decide_eq_true_eq]
    omega
  have hb : M.isPlace (i : Int) = true := by simp only [M.isPlace, M.within, Bool.and_eq_true, decide_eq_true_eq]; omega
  rw [ha, hb, Int.toNat_natCast, Int.toNat_natCast, Nat.testBit_two_pow_sub_one]
  simp [hi]
theorem inSet_none (i : Int) : M.inSet 0 i = false := by simp [M.inSet]
theorem falls_full {n : Nat} (hn : n ≤ 40) : ∀ (l : List Put) (i : Nat) (d : Disk), i + l.length = n → M.falls ((2 ^ n - 1 : Nat) : Int) l i d = M.lays l d
  | [], i, d, _ => rfl
  | p :: l, i, d, h => by
    simp only [List.length_cons] at h
    simp only [M.falls, M.lays]
    rw [inSet_full hn (by omega), if_pos rfl]
    exact falls_full hn l (i + 1) _ (by omega)
theorem falls_none : ∀ (l : List Put) (i : Nat) (d : Disk), M.falls 0 l i d = ⟨d.fA, d.fB, d.fR, []⟩
  | [], i, d => rfl
  | p :: l, i, d => by
    simp only [M.falls]
    rw [inSet_none, if_neg (by simp)]
    exact falls_none l (i + 1) d
theorem lays_nil : ∀ (l : List Put) (d : Disk), (M.lays l d).fP = []
  | [], d => rfl
  | p :: l, d => lays_nil l _
theorem sure_sure {d : Disk} (h : M.diskOk d = true) : M.sure (M.sure d) = M.sure d := by
  have e : (M.sure d).fP = [] := by unfold M.sure; rw [h, if_pos rfl]; exact lays_nil _ _
  generalize M.sure d = x at e
  unfold M.sure
  split
  · rw [e]
    obtain ⟨a, b, r, p⟩ := x
    simp only at e
    subst e
    rfl
  · rfl
theorem recBeq (r : Record) : (([r.fGen, r.fSlot, r.fLen] : List Int) == [r.fGen, r.fSlot, r.fLen]) = true := beq_self_eq_true _
theorem FnDisks_j1_eq {u : Nat} (hu : 1099511627776 ≤ u) {d : Disk} (h : M.diskOk d = true) : laws_FnDisks_j1 u false d = some true := by
  have hd := diskOk_dok h
  have hs := sure_ok hd
  have hl := hd.p
  have hfall0 : M.fall d 0 = ⟨d.fA, d.fB, d.fR, []⟩ := by unfold M.fall; rw [h, if_pos rfl]; exact falls_none _ _ _
  unfold laws_FnDisks_j1 impl_Least
  simp only [cond_false, Option.bind_some]
  have hmin : (if (40 : Int) < (d.fP.length : Int) then (40 : Int) else (d.fP.length : Int)) = ((min d.fP.length 40 : Nat) : Int) := by split <;> omega
  rw [hmin, impl_FullSet_eq u (by omega)]
  simp only [Option.bind_some]
  rw [impl_Fall_eq hu hd, impl_Fall_eq hu hd, impl_DiskOk_eq hu hd, h, hfall0]
  simp only [Option.bind_some, cond_true]
  by_cases h4 : (d.fP.length : Int) > 40
  · simp only [h4, decide_true, cond_true]
    rw [laws_same_refl hu hd.a, laws_same_refl hu hd.b]
    simp only [Option.bind_some, cond_true, recBeq, List.length_nil, Int.natCast_zero, beq_self_eq_true]
    rw [impl_Sure_eq hu hd]
    simp only [Option.bind_some]
    rw [impl_Sure_eq hu hs]
    simp only [Option.bind_some]
    rw [sure_sure h, laws_sameDisk_refl hu hs]
    rfl
  · simp only [h4, decide_false, cond_false]
    have hfull : M.fall d ((2 ^ min d.fP.length 40 - 1 : Nat) : Int) = M.sure d := by
      have e : min d.fP.length 40 = d.fP.length := by omega
      unfold M.fall M.sure
      rw [h, if_pos rfl, if_pos rfl, e]
      exact falls_full (by omega) d.fP 0 d (by omega)
    rw [hfull, impl_Sure_eq hu hd]
    simp only [Option.bind_some]
    rw [laws_sameDisk_refl hu hs]
    simp only [Option.bind_some, cond_true]
    rw [laws_same_refl hu hd.a, laws_same_refl hu hd.b]
    simp only [Option.bind_some, cond_true, recBeq, List.length_nil, Int.natCast_zero, beq_self_eq_true]
    rw [impl_Sure_eq hu hs]
    simp only [Option.bind_some]
    rw [sure_sure h, laws_sameDisk_refl hu hs]
    rfl
theorem DrawFall_eq {u : Nat} (hu : 1099511627776 ≤ u) {code : List Int} (h : code.length ≤ 1048576) : ∃ d n, spec_DrawFall u code = some (d, n) ∧ M.DOk d := by
  obtain ⟨c, e, hc⟩ := l1New_eq hu h
  obtain ⟨d, c1, e1, hd, h1⟩ := l9Any_dr hu hc
  obtain ⟨n, c2, e2, _, h2⟩ := l1Int_dr u h1 (xs := [0, 1, 2, 3, 5, 31, -1]) (by simp)
  exact ⟨d, n, by unfold spec_DrawFall; rw [e]; simp only [Option.bind_some]; rw [e1]; simp only [Option.bind_some]; rw [e2]; rfl, hd.1⟩
theorem DrawOnePut_eq {u : Nat} (hu : 1099511627776 ≤ u) {code : List Int} (h : code.length ≤ 1048576) : ∃ d p, spec_DrawOnePut u code = some (d, p) ∧ M.DOk d ∧ p.fB.length ≤ 1048576 := by
  obtain ⟨c, e, hc⟩ := l1New_eq hu h
  obtain ⟨d, c1, e1, hd, h1⟩ := l9Any_dr hu hc
  obtain ⟨p, c2, e2, hp, h2⟩ := l9OnePut_dr hu h1
  obtain ⟨b, c3, e3, _, h3⟩ := l1Once_dr u h2 8
  unfold spec_DrawOnePut
  rw [e]
  simp only [Option.bind_some]
  rw [e1]
  simp only [Option.bind_some]
  rw [e2]
  simp only [Option.bind_some]
  rw [e3]
  simp only [Option.bind_some, spec_DrawOnePut_j1]
  cases b with
  | true =>
    obtain ⟨n, c4, e4, _, h4⟩ := l1Below_dr u h3 5
    simp only [cond_true, e4, Option.bind_some]
    exact ⟨_, _, rfl, hd.1, by (try simp only); omega⟩
  | false => exact ⟨_, _, rfl, hd.1, by (try simp only); omega⟩
theorem DrawSure_eq {u : Nat} (hu : 1099511627776 ≤ u) {code : List Int} (h : code.length ≤ 1048576) : ∃ d, spec_DrawSure u code = some d ∧ M.DOk d := by
  obtain ⟨c, e, hc⟩ := l1New_eq hu h
  obtain ⟨d, c', e2, hd, _⟩ := l9Any_dr hu hc
  exact ⟨d, by unfold spec_DrawSure; rw [e]; simp only [Option.bind_some]; rw [e2]; rfl, hd.1⟩
theorem DrawPutBytes_eq {u : Nat} (hu : 1099511627776 ≤ u) {code : List Int} (h : code.length ≤ 1048576) : ∃ d s a b, spec_DrawPutBytes u code = some (d, s, a, b) ∧ M.DOk d ∧ d.fP.length ≤ 1048575 ∧ b.length ≤ 1048576 := by
  obtain ⟨c, e, hc⟩ := l1New_eq hu h
  obtain ⟨d, c1, e1, hd, h1⟩ := l9Any_dr hu hc
  obtain ⟨s, c2, e2, _, h2⟩ := l1Int_dr u h1 (xs := [0, 1, 2, -1]) (by simp)
  obtain ⟨a, c3, e3, _, h3⟩ := l1Int_dr u h2 (xs := [0, 1, 5, 239, 240, -1]) (by simp)
  obtain ⟨b, c4, e4, hb, h4⟩ := l3Bytes_dr hu h3 (n := 4) (by omega)
  rw [show ((4 : Nat) : Int) = 4 by rfl] at e4
  exact ⟨d, s, a, b, by unfold spec_DrawPutBytes; rw [e]; simp only [Option.bind_some]; rw [e1]; simp only [Option.bind_some]; rw [e2]; simp only [Option.bind_some]; rw [e3]; simp only [Option.bind_some]; rw [e4]; rfl, hd.1, by have := hd.2; omega, by omega⟩
theorem DrawPutRecord_eq {u : Nat} (hu : 1099511627776 ≤ u) {code : List Int} (h : code.length ≤ 1048576) : ∃ d r, spec_DrawPutRecord u code = some (d, r) ∧ M.DOk d ∧ d.fP.length ≤ 1048575 := by
  obtain ⟨c, e, hc⟩ := l1New_eq hu h
  obtain ⟨d, c1, e1, hd, h1⟩ := l9Any_dr hu hc
  obtain ⟨s, c2, e2, _, h2⟩ := l1Int_dr u h1 (xs := [0, 1, -1, 1000001]) (by simp)
  obtain ⟨a, c3, e3, _, h3⟩ := l1Below_dr u h2 3
  obtain ⟨b, c4, e4, hb, h4⟩ := l1Int_dr u h3 (xs := [0, 5, 240, 241]) (by simp)
  exact ⟨d, ⟨s, a, b⟩, by unfold spec_DrawPutRecord; rw [e]; simp only [Option.bind_some]; rw [e1]; simp only [Option.bind_some]; rw [e2]; simp only [Option.bind_some]; rw [e3]; simp only [Option.bind_some]; rw [e4]; rfl, hd.1, by have := hd.2; omega⟩
theorem DrawDiskNew_eq {u : Nat} (hu : 1099511627776 ≤ u) {code : List Int} (h : code.length ≤ 1048576) : ∃ g b, spec_DrawDiskNew u code = some (g, b) ∧ b.length ≤ 1048576 := by
  obtain ⟨c, e, hc⟩ := l1New_eq hu h
  obtain ⟨b, c1, e1, hb, h1⟩ := l3Bytes_dr hu hc (n := 9) (by omega)
  rw [show ((9 : Nat) : Int) = 9 by rfl] at e1
  obtain ⟨o, c2, e2, _, h2⟩ := l1Once_dr u h1 12
  unfold spec_DrawDiskNew
  rw [e]
  simp only [Option.bind_some]
  rw [e1]
  simp only [Option.bind_some]
  rw [e2]
  simp only [Option.bind_some, spec_DrawDiskNew_j1]
  cases o with
  | true =>
    obtain ⟨n, c3, e3, hn, h3⟩ := l1Below_dr u h2 2
    have hn2 := hn.2 (by omega)
    have hn1 := hn.1
    simp only [cond_true, e3, Option.bind_some]
    have ha : bAdd .i64 240 n = 240 + n := bAdd_i64 (by omega) (by omega)
    have h0 : (0 : Int) ≤ 240 + n := by omega
    simp only [ha, h0, decide_true, beq_self_eq_true, Bool.or_true, Bool.and_self, chk_true, Option.bind_some]
    rw [chk_dec (by omega)]
    simp only [Option.bind_some]
    obtain ⟨g, c4, e4, _, h4⟩ := l1Int_dr u h3 (xs := [0, 1, 1000000, 1000001, -1]) (by simp)
    rw [e4]
    exact ⟨_, _, rfl, by simp only [List.length_replicate]; omega⟩
  | false =>
    simp only [cond_false]
    obtain ⟨g, c4, e4, _, h4⟩ := l1Int_dr u h2 (xs := [0, 1, 1000000, 1000001, -1]) (by simp)
    rw [e4]
    exact ⟨_, _, rfl, by omega⟩
theorem FnDisks_law (p0 : List Int) (h : wSl (wInt .u8) p0 ∧ True) : laws_FnDisks 1099511627776 p0 = some true := by
  have hu : 1099511627776 ≤ 1099511627776 := Nat.le_refl _
  unfold laws_FnDisks laws_big
  simp only [Option.bind_some]
  by_cases hb : (p0.length : Int) > 1048576
  · simp only [hb, decide_true, cond_true]
  · simp only [hb, decide_false, cond_false]
    have hl : p0.length ≤ 1048576 := by omega
    obtain ⟨d, e1, hd⟩ := DrawDisk_eq hu hl
    obtain ⟨e, n, e2, he⟩ := DrawFall_eq hu hl
    obtain ⟨f, p, e3, hf, hp⟩ := DrawOnePut_eq hu hl
    obtain ⟨g, e4, hg⟩ := DrawSure_eq hu hl
    obtain ⟨a, s, i, b, e5, ha, ha2, hb2⟩ := DrawPutBytes_eq hu hl
    obtain ⟨x, ok, x1, x2, x3⟩ := PutBytes_same hu ha ha2 hb2 s i
    obtain ⟨hh, r, e6, hh1, hh2⟩ := DrawPutRecord_eq hu hl
    obtain ⟨y, ok2, y1, y2, y3⟩ := PutRecord_same hu hh1 hh2 r
    obtain ⟨gn, m, e7, hm⟩ := DrawDiskNew_eq hu hl
    obtain ⟨z, z1, z2, z3⟩ := DiskNew_same (u := 1099511627776) gn hm
    simp only [e1, e2, e3, e4, e5, e6, e7, x1, x2, y1, y2, z1, z2, Option.bind_some, impl_Fall_eq hu he, spec_Fall_eq hu he, laws_sameDisk_refl hu (fall_ok he n), Bool.not_true, cond_false,
      impl_OnePut_all hu hf hp, spec_OnePut_all hu hf hp, laws_sameDisk_refl hu (onePutA_ok (p := p) hf), impl_Sure_eq hu hg, spec_Sure_eq hu hg, laws_sameDisk_refl hu (sure_ok hg), laws_sameDisk_refl hu x3, laws_sameDisk_refl hu y3, laws_sameDisk_refl hu z3,
      impl_DiskOk_eq hu he, spec_DiskOk_eq hu he, beq_self_eq_true]
    exact FnDisks_j1_eq hu hd
end Go.Tm.Pu
