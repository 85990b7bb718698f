/- Plain laws of the functions. -/
import Derived.Test.YtpnakgaocjmikaaGreatDoorCFnPlansD
import Derived.Test.YtpnakgaocjmikaaGreatDoorPu2
set_option linter.unusedVariables false
set_option linter.unusedSimpArgs false
namespace Go.Tm.Pu
open Go.Tm
def M.within (n a b : Int) : Bool := decide (a ≤ n) && decide (n ≤ b)
def M.sizeOk (size n : Int) : Bool := M.within size 2 6 && M.within n 0 (40 * size)
def M.blocks (size n : Int) : Int := if M.sizeOk size n then (n + size - 1) / size else 0
def M.spanOf (size n i : Int) : Int × Int := if M.within i 0 (M.blocks size n - 1) then (i * size, min size (n - i * size)) else (0, 0)
theorem within_t {n a b : Int} (h : M.within n a b = true) : a ≤ n ∧ n ≤ b := by simpa [M.within] using h
theorem within_f {n a b : Int} (h : M.within n a b = false) : n < a ∨ b < n := by
  simp [M.within] at h; omega
theorem impl_within_eq (u : Nat) (n a b : Int) : impl_within u n a b = some (M.within n a b) := by
  unfold impl_within M.within
  by_cases h : a ≤ n <;> simp [h]
theorem spec_l1In_eq (u : Nat) (n a b : Int) : spec_l1In u n a b = some (M.within n a b) := by
  unfold spec_l1In M.within
  by_cases h : a ≤ n <;> simp [h]
theorem impl_SizeOk_eq (u : Nat) (s n : Int) : impl_SizeOk u s n = some (M.sizeOk s n) := by
  unfold impl_SizeOk M.sizeOk
  simp only [impl_within_eq, Option.bind_some]
  cases h : M.within s 2 6 with
  | false => simp
  | true =>
    have := within_t h
    simp (disch := omega) only [cond_true, Bool.true_and, bMul_i64]
theorem spec_SizeOk_eq (u : Nat) (s n : Int) : spec_SizeOk u s n = some (M.sizeOk s n) := by
  unfold spec_SizeOk M.sizeOk
  simp only [spec_l1In_eq, Option.bind_some]
  cases h : M.within s 2 6 with
  | false => simp
  | true =>
    have := within_t h
    simp (disch := omega) only [cond_true, Bool.true_and, bMul_i64]
    rw [Int.mul_comm]
theorem sizeOk_t {s n : Int} (h : M.sizeOk s n = true) : 2 ≤ s ∧ s ≤ 6 ∧ 0 ≤ n ∧ n ≤ 40 * s := by
  simp [M.sizeOk, M.within] at h; omega
def M.ceilDiv (a b : Int) : Int := if M.within a 0 1000000000000 && M.within b 1 1000000000000 then (a + b - 1) / b else 0
theorem impl_CeilDiv_eq (u : Nat) (a b : Int) : impl_CeilDiv u a b = some (M.ceilDiv a b) := by
  unfold impl_CeilDiv M.ceilDiv impl_CeilDiv_j1
  simp only [impl_within_eq, Option.bind_some]
  cases h : M.within a 0 1000000000000 with
  | false => simp
  | true =>
    cases h2 : M.within b 1 1000000000000 with
    | false => simp
    | true =>
      have := within_t h
      have := within_t h2
      have hb : (b == 0) = false := by simp; omega
      simp (disch := omega) [chk, bAdd_i64, bSub_i64, bQuo_pos, hb]
theorem spec_CeilDiv_eq (u : Nat) (a b : Int) : spec_CeilDiv u a b = some (M.ceilDiv a b) := by
  unfold spec_CeilDiv M.ceilDiv spec_CeilDiv_j1
  simp only [spec_l1In_eq, Option.bind_some]
  cases h : M.within a 0 1000000000000 with
  | false => simp
  | true =>
    cases h2 : M.within b 1 1000000000000 with
    | false => simp
    | true =>
      have := within_t h
      have := within_t h2
      have hb : (b == 0) = false := by simp; omega
      simp (disch := omega) [chk, bAdd_i64, bSub_i64, bQuo_pos, hb]
theorem blocks_ceil {s n : Int} (h : M.sizeOk s n = true) : M.ceilDiv n s = (n + s - 1) / s := by
  have := sizeOk_t h
  have h1 : M.within n 0 1000000000000 = true := by simp [M.within]; omega
  have h2 : M.within s 1 1000000000000 = true := by simp [M.within]; omega
  simp [M.ceilDiv, h1, h2]
theorem impl_Blocks_eq (u : Nat) (s n : Int) : impl_Blocks u s n = some (M.blocks s n) := by
  unfold impl_Blocks M.blocks
  simp only [impl_SizeOk_eq, impl_CeilDiv_eq, Option.bind_some]
  cases h : M.sizeOk s n with
  | false => simp
  | true => simp [blocks_ceil h]
theorem spec_Blocks_eq (u : Nat) (s n : Int) : spec_Blocks u s n = some (M.blocks s n) := by
  unfold spec_Blocks M.blocks
  simp only [spec_SizeOk_eq, spec_CeilDiv_eq, Option.bind_some]
  cases h : M.sizeOk s n with
  | false => simp
  | true => simp [blocks_ceil h]
theorem blocks_range (s n : Int) : 0 ≤ M.blocks s n ∧ M.blocks s n ≤ 40 := by
  unfold M.blocks
  split
  · rename_i h
    have h := sizeOk_t h
    refine ⟨Int.ediv_nonneg (by omega) (by omega), ?_⟩
    have : (n + s - 1) / s < 41 := Int.ediv_lt_of_lt_mul (by omega) (by omega)
    omega
  · omega
theorem blocks_ok {s n i : Int} (h : M.within i 0 (M.blocks s n - 1) = true) : M.sizeOk s n = true ∧ 0 ≤ i ∧ i ≤ 39 := by
  have h1 := within_t h
  have := blocks_range s n
  refine ⟨?_, by omega, by omega⟩
  cases h2 : M.sizeOk s n with
  | true => rfl
  | false => simp [M.blocks, h2] at h1; omega
theorem mul_range {s i : Int} (h1 : 2 ≤ s) (h2 : s ≤ 6) (h3 : 0 ≤ i) (h4 : i ≤ 39) : 0 ≤ i * s ∧ i * s ≤ 234 :=
  ⟨Int.mul_nonneg h3 (by omega), Int.le_trans (Int.mul_le_mul h4 h2 (by omega) (by omega)) (by omega)⟩
theorem impl_SpanOf_eq (u : Nat) (s n i : Int) : impl_SpanOf u s n i = some (M.spanOf s n i) := by
  unfold impl_SpanOf M.spanOf
  have hb := blocks_range s n
  simp (disch := omega) only [impl_Blocks_eq, impl_within_eq, Option.bind_some, bSub_i64]
  cases h : M.within i 0 (M.blocks s n - 1) with
  | false => simp
  | true =>
    have ⟨h1, h2, h3⟩ := blocks_ok h
    have h1 := sizeOk_t h1
    have h4 := mul_range (s := s) (i := i) (by omega) (by omega) h2 h3
    simp (disch := omega) [bMul_i64, bSub_i64]
    omega
theorem spec_Least_eq (u : Nat) (a b : Int) : spec_Least u a b = some (min a b) := by
  unfold spec_Least
  by_cases h : b < a <;> simp [h] <;> omega
theorem spec_SpanOf_eq (u : Nat) (s n i : Int) : spec_SpanOf u s n i = some (M.spanOf s n i) := by
  unfold spec_SpanOf M.spanOf
  have hb := blocks_range s n
  simp (disch := omega) only [spec_Blocks_eq, spec_l1In_eq, Option.bind_some, bSub_i64]
  cases h : M.within i 0 (M.blocks s n - 1) with
  | false => simp
  | true =>
    have ⟨h1, h2, h3⟩ := blocks_ok h
    have h1 := sizeOk_t h1
    have h4 := mul_range (s := s) (i := i) (by omega) (by omega) h2 h3
    simp (disch := omega) [bMul_i64, bSub_i64, spec_Least_eq]
def M.isBytes (b : List Int) : Prop := ∀ x ∈ b, 0 ≤ x ∧ x ≤ 255
def M.weakS : List Int → Int → Int → Int × Int
  | [], x, y => (x, y)
  | c :: b, x, y => M.weakS b ((x + c) % 251) ((y + (x + c) % 251) % 251)
def M.weakOf (b : List Int) : Int := (M.weakS b 0 0).1 + 251 * (M.weakS b 0 0).2
theorem weakS_range (b : List Int) : ∀ (x y : Int), 0 ≤ x → x < 251 → 0 ≤ y → y < 251 → 0 ≤ (M.weakS b x y).1 ∧ (M.weakS b x y).1 < 251 ∧ 0 ≤ (M.weakS b x y).2 ∧ (M.weakS b x y).2 < 251 := by
  induction b with
  | nil => intro x y h1 h2 h3 h4; exact ⟨h1, h2, h3, h4⟩
  | cons c b ih =>
    intro x y h1 h2 h3 h4
    exact ih _ _ (by omega) (by omega) (by omega) (by omega)
theorem weakOf_range (b : List Int) : 0 ≤ M.weakOf b ∧ M.weakOf b ≤ 63000 := by
  have := weakS_range b 0 0 (by omega) (by omega) (by omega) (by omega)
  unfold M.weakOf; omega
theorem spec_WeakOf_w (u : Nat) : ∀ (p b : List Int) (i : Nat) (x y : Int), M.isBytes b → 0 ≤ x → x < 251 → 0 ≤ y → y < 251 →
    wlist (spec_WeakOf_l2_f u p) (spec_WeakOf_l2_b u p) b i (x, y) = spec_WeakOf_j1 u (M.weakS b x y).1 (M.weakS b x y).2 := by
  intro p b
  induction b with
  | nil => intros; rfl
  | cons c b ih =>
    intro i x y hb h1 h2 h3 h4
    have hc := hb c (by simp)
    have e1 : bRem .i64 (bAdd .i64 x (IntKind.wrap .i64 c)) 251 = (x + c) % 251 := by
      rw [wrap_i64 (by omega) (by omega), bAdd_i64 (by omega) (by omega), bRem_pos (by omega)]
    have e2 : bRem .i64 (bAdd .i64 y ((x + c) % 251)) 251 = (y + (x + c) % 251) % 251 := by
      rw [bAdd_i64 (by omega) (by omega), bRem_pos (by omega)]
    simp only [wlist, spec_WeakOf_l2_b, e1, e2]
    exact ih (i + 1) _ _ (fun z hz => hb z (by simp [hz])) (by omega) (by omega) (by omega) (by omega)
theorem impl_WeakOf_w (u : Nat) : ∀ (p b : List Int) (i : Nat) (x y : Int), M.isBytes b → 0 ≤ x → x < 251 → 0 ≤ y → y < 251 →
    wlist (impl_WeakOf_l2_f u p) (impl_WeakOf_l2_b u p) b i (x, y) = impl_WeakOf_j1 u (M.weakS b x y).1 (M.weakS b x y).2 := by
  intro p b
  induction b with
  | nil => intros; rfl
  | cons c b ih =>
    intro i x y hb h1 h2 h3 h4
    have hc := hb c (by simp)
    have e1 : bRem .i64 (bAdd .i64 x (IntKind.wrap .i64 c)) 251 = (x + c) % 251 := by
      rw [wrap_i64 (by omega) (by omega), bAdd_i64 (by omega) (by omega), bRem_pos (by omega)]
    have e2 : bRem .i64 (bAdd .i64 y ((x + c) % 251)) 251 = (y + (x + c) % 251) % 251 := by
      rw [bAdd_i64 (by omega) (by omega), bRem_pos (by omega)]
    simp only [wlist, impl_WeakOf_l2_b, e1, e2]
    exact ih (i + 1) _ _ (fun z hz => hb z (by simp [hz])) (by omega) (by omega) (by omega) (by omega)
theorem spec_WeakOf_eq {u : Nat} (hu : 1099511627776 ≤ u) {b : List Int} (hb : M.isBytes b) (hl : b.length ≤ 1073741824) : spec_WeakOf u b = some (M.weakOf b) := by
  unfold spec_WeakOf
  rw [spec_WeakOf_l2_w u b (0, 0) u (by omega) (by omega), spec_WeakOf_w u b b 0 0 0 hb (by omega) (by omega) (by omega) (by omega)]
  have := weakS_range b 0 0 (by omega) (by omega) (by omega) (by omega)
  unfold spec_WeakOf_j1 M.weakOf
  simp (disch := omega) only [bMul_i64, bAdd_i64]
theorem tmod_wrap {n m : Int} (hm : 0 < m) : (n.tmod m + m).tmod m = n % m := by
  rcases Int.le_total 0 n with h | h
  · rw [Int.tmod_eq_emod_of_nonneg h, Int.tmod_eq_emod_of_nonneg (by have := Int.emod_nonneg n (show m ≠ 0 by omega); omega)]
    simp
  · have h1 : n.tmod m = -((-n) % m) := by
      rw [show n = -(-n) by omega, Int.neg_tmod, Int.tmod_eq_emod_of_nonneg (by omega)]; simp
    have h2 := Int.emod_nonneg (-n) (show m ≠ 0 by omega)
    have h3 := Int.emod_lt_of_pos (-n) hm
    rw [h1, Int.tmod_eq_emod_of_nonneg (by omega)]
    have : (-((-n) % m) + m) % m = n % m := by
      have e : -n = m * (-n / m) + (-n) % m := (Int.mul_ediv_add_emod (-n) m).symm
      have e2 : -((-n) % m) + m = n + m * (-n / m + 1) := by
        rw [Int.mul_add]; omega
      rw [e2, Int.add_mul_emod_self_left]
    exact this
theorem tmod_range {n m : Int} (hm : 0 < m) : -m < n.tmod m ∧ n.tmod m < m := by
  rcases Int.le_total 0 n with h | h
  · rw [Int.tmod_eq_emod_of_nonneg h]
    have h2 := Int.emod_nonneg n (show m ≠ 0 by omega)
    have h3 := Int.emod_lt_of_pos n hm
    omega
  · have h1 : n.tmod m = -((-n) % m) := by
      rw [show n = -(-n) by omega, Int.neg_tmod, Int.tmod_eq_emod_of_nonneg (by omega)]; simp
    have h2 := Int.emod_nonneg (-n) (show m ≠ 0 by omega)
    have h3 := Int.emod_lt_of_pos (-n) hm
    omega
theorem impl_Wrap_eq (u : Nat) (n m : Int) : impl_Wrap u n m = some (if M.within m 1 1000000000000 then n % m else 0) := by
  unfold impl_Wrap
  simp only [impl_within_eq, Option.bind_some]
  cases h : M.within m 1 1000000000000 with
  | false => simp
  | true =>
    have h3 := within_t h
    have hb : (m == 0) = false := by simp; omega
    have h4 := tmod_range (n := n) (m := m) (by omega)
    simp only [hb, Bool.not_true, cond_false, Bool.not_false, chk_true, Option.bind_some]
    have e1 : bRem .i64 n m = n.tmod m := rfl
    rw [e1, bAdd_i64 (by omega) (by omega)]
    show some ((n.tmod m + m).tmod m) = _
    rw [tmod_wrap (by omega)]; simp
theorem impl_weak_eq (u : Nat) (x y : Int) : impl_weak u x y = some (x % 251 + 251 * (y % 251)) := by
  unfold impl_weak
  have h : M.within 251 1 1000000000000 = true := by decide
  simp only [impl_Wrap_eq, Option.bind_some, h, if_true]
  simp (disch := omega) only [bMul_i64, bAdd_i64]
theorem impl_WeakOf_eq {u : Nat} (hu : 1099511627776 ≤ u) {b : List Int} (hb : M.isBytes b) (hl : b.length ≤ 1073741824) : impl_WeakOf u b = some (M.weakOf b) := by
  unfold impl_WeakOf
  rw [impl_WeakOf_l2_w u b (0, 0) u (by omega) (by omega), impl_WeakOf_w u b b 0 0 0 hb (by omega) (by omega) (by omega) (by omega)]
  have := weakS_range b 0 0 (by omega) (by omega) (by omega) (by omega)
  unfold impl_WeakOf_j1 M.weakOf
  simp only [impl_weak_eq, Option.bind_some]
  congr 1
  omega
def M.digits : Nat → Int → List Int
  | 0, _ => []
  | n + 1, s => M.digits n (s / 256) ++ [s % 256]
def M.bytesR : Nat → Int → Option (List Int)
  | 0, s => if s = 1 then some [] else none
  | n + 1, s => if s = 1 then some [] else if s < 256 then none else (M.bytesR n (s / 256)).map (· ++ [s % 256])
def M.bytesOf (s : Int) : List Int × Bool := if s < 1 then ([], false) else match M.bytesR 6 s with | some b => (b, true) | none => ([], false)
def M.nOf : Nat → Int → Nat
  | 0, _ => 0
  | k + 1, t => if 1 < t then M.nOf k (t / 256) + 1 else 0
def M.endOf : Nat → Int → Int
  | 0, t => t
  | k + 1, t => if 1 < t then M.endOf k (t / 256) else t
theorem nOf_le : ∀ (k : Nat) (t : Int), M.nOf k t ≤ k := by
  intro k
  induction k with
  | zero => intro t; simp [M.nOf]
  | succ k ih => intro t; unfold M.nOf; have := ih (t / 256); split <;> omega
theorem endOf_eq : ∀ (k : Nat) (t : Int), M.endOf k t = t / 256 ^ M.nOf k t := by
  intro k
  induction k with
  | zero => intro t; simp [M.endOf, M.nOf]
  | succ k ih =>
    intro t
    unfold M.endOf M.nOf
    split
    · rw [ih, Int.ediv_ediv_of_nonneg (by omega), Int.pow_succ, Int.mul_comm]
    · simp
theorem bytesR_eq : ∀ (k : Nat) (t : Int), 0 ≤ t → M.bytesR k t = if M.endOf k t = 1 then some (M.digits (M.nOf k t) t) else none := by
  intro k
  induction k with
  | zero => intro t h; simp [M.bytesR, M.endOf, M.nOf, M.digits]
  | succ k ih =>
    intro t h
    unfold M.bytesR M.endOf M.nOf
    by_cases h1 : t = 1
    · subst h1; simp [M.digits]
    · rw [if_neg h1]
      by_cases h2 : 1 < t
      · simp only [if_pos h2]
        by_cases h3 : t < 256
        · have : t / 256 = 0 := Int.ediv_eq_zero_of_lt h h3
          rw [if_pos h3, this]
          have : M.endOf k 0 = 0 := by rw [endOf_eq]; simp
          rw [this]; simp
        · rw [if_neg h3, ih _ (by omega)]
          split <;> simp [M.digits]
      · have : t = 0 := by omega
        subst this; simp
theorem endOf_ge : ∀ (k : Nat) (t : Int), 0 ≤ t → t / 256 ^ k ≤ M.endOf k t := by
  intro k
  induction k with
  | zero => intro t h; simp [M.endOf]
  | succ k ih =>
    intro t h
    unfold M.endOf
    split
    · have := ih (t / 256) (by omega)
      rwa [Int.ediv_ediv_of_nonneg (by omega), Int.mul_comm, ← Int.pow_succ] at this
    · exact Int.ediv_le_self _ h
theorem digits_bytes : ∀ (n : Nat) (s : Int), M.isBytes (M.digits n s) := by
  intro n
  induction n with
  | zero => intro s x hx; simp [M.digits] at hx
  | succ n ih =>
    intro s x hx
    simp only [M.digits, List.mem_append, List.mem_singleton] at hx
    rcases hx with h | h
    · exact ih _ x h
    · omega
theorem digits_length : ∀ (n : Nat) (s : Int), (M.digits n s).length = n := by
  intro n
  induction n with
  | zero => intro s; rfl
  | succ n ih => intro s; simp [M.digits, ih]
theorem bytesOf_some {s : Int} {b : List Int} (h : M.bytesOf s = (b, true)) : 1 ≤ s ∧ s / 256 ^ b.length = 1 ∧ b = M.digits b.length s ∧ b.length ≤ 6 := by
  unfold M.bytesOf at h
  split at h
  · cases h
  · rename_i h1
    rw [bytesR_eq 6 s (by omega)] at h
    have he := endOf_eq 6 s
    have hn := nOf_le 6 s
    by_cases h2 : M.endOf 6 s = 1
    · simp only [h2, if_true, Prod.mk.injEq, and_true] at h
      subst h
      rw [digits_length]
      exact ⟨by omega, by rw [← he]; exact h2, rfl, hn⟩
    · simp [h2] at h
theorem bytesOf_bytes (s : Int) : M.isBytes (M.bytesOf s).1 ∧ (M.bytesOf s).1.length ≤ 6 := by
  match h : M.bytesOf s with
  | (b, true) =>
    have h := bytesOf_some h
    exact ⟨by rw [h.2.2.1]; exact digits_bytes _ _, h.2.2.2⟩
  | (b, false) =>
    have : b = [] := by
      unfold M.bytesOf at h
      split at h
      · simp at h; exact h.symm ▸ rfl
      · split at h <;> simp at h; exact h.symm ▸ rfl
    subst this
    exact ⟨by simp [M.isBytes], by simp⟩
theorem bAnd255 (a : Int) (h : 0 ≤ a) : IntKind.wrap .u8 (bAnd .i64 a 255) = a % 256 := by
  have : bAnd .i64 a 255 = a % 256 := by
    unfold bAnd
    have e : (BitVec.ofInt (IntKind.bits .i64) a &&& BitVec.ofInt (IntKind.bits .i64) 255).toNat = (a % 256).toNat := by
      change (BitVec.ofInt 64 a &&& BitVec.ofInt 64 255).toNat = (a % 256).toNat
      rw [BitVec.toNat_and, BitVec.toNat_ofInt, BitVec.toNat_ofInt, show ((255 : Int) % ((2 ^ 64 : Nat) : Int)).toNat = 2 ^ 8 - 1 by decide, Nat.and_two_pow_sub_one_eq_mod]
      omega
    rw [e]
    exact (wrap_i64 (by omega) (by omega)).trans (by omega)
  rw [this, wrap_u8]; omega
theorem spec_BytesOf_l2_eq (u : Nat) : ∀ (k n : Nat) (s : Int) (acc : List Int), n < k → 1 ≤ s → s < 256 ^ n * 2 → acc.length + n ≤ 1000 →
    spec_BytesOf_l2 u k s acc = some (match M.bytesR n s with | some b => (b ++ acc, true) | none => ([], false)) := by
  intro k
  induction k with
  | zero => intro n s acc h; omega
  | succ k ih =>
    intro n s acc hk h1 h2 h3
    unfold spec_BytesOf_l2
    by_cases h4 : s = 1
    · subst h4
      cases n <;> simp [M.bytesR, spec_BytesOf_j1]
    · have h5 : s > 1 := by omega
      cases n with
      | zero => simp at h2; omega
      | succ n =>
        simp only [h5, decide_true, cond_true, M.bytesR, if_neg h4]
        by_cases h6 : s < 256
        · simp [h6]
        · have hw : ([IntKind.wrap .u8 (bAnd .i64 s 255)]) = [s % 256] := by rw [bAnd255 _ (by omega)]
          simp only [h6, decide_false, cond_false, if_false, bShr8, hw]
          rw [chk_dec (by simp; omega)]
          simp only [Option.bind_some]
          rw [ih n (s / 256) _ (by omega) (by omega) (by rw [Int.pow_succ] at h2; omega) (by simp; omega)]
          cases M.bytesR n (s / 256) <;> simp
theorem bytesOf_big {s : Int} (h : 562949953421311 < s) : M.bytesOf s = ([], false) := by
  unfold M.bytesOf
  rw [if_neg (by omega), bytesR_eq 6 s (by omega)]
  have := endOf_ge 6 s (by omega)
  have e : (256 : Int) ^ 6 = 281474976710656 := by decide
  rw [e] at this
  rw [if_neg (by omega)]
theorem spec_BytesOf_eq {u : Nat} (hu : 1099511627776 ≤ u) (s : Int) : spec_BytesOf u s = some (M.bytesOf s) := by
  unfold spec_BytesOf
  simp only [spec_l1In_eq, Option.bind_some]
  cases h : M.within s 1 562949953421311 with
  | false =>
    rcases within_f h with h | h
    · simp [M.bytesOf, h]
    · rw [bytesOf_big h]; simp
  | true =>
    have h := within_t h
    have e : (256 : Int) ^ 6 = 281474976710656 := by decide
    simp only [Bool.not_true, cond_false]
    rw [spec_BytesOf_l2_eq u u 6 s [] (by omega) (by omega) (by rw [e]; omega) (by simp)]
    unfold M.bytesOf
    rw [if_neg (by omega)]
    cases M.bytesR 6 s <;> simp
theorem bShr8j (s : Int) (j : Nat) (h : j ≤ 8) : bShr .i64 s (8 * (j : Int)) = s / 256 ^ j := by
  have := bShr_k .i64 s (8 * j) (by simp [IntKind.bits]; omega)
  rw [show ((8 * j : Nat) : Int) = 8 * (j : Int) by simp] at this
  rw [this, show (256 : Int) = 2 ^ 8 by decide, ← Int.pow_mul]
theorem walk_fill {α ρ : Type} {fin : List α → Option ρ} {body : Nat → List α → (List α → Option ρ) → Option ρ} (f : Nat → α) (n : Nat) (hb : ∀ i s k, i < n → s.length = n → body i s k = k (s.set i (f i))) :
    ∀ (m i : Nat) (s : List α), i + m = n → s.length = n → s.take i = (List.range i).map f → walk fin body m i s = fin ((List.range n).map f) := by
  intro m
  induction m with
  | zero =>
    intro i s h1 h2 h3
    simp only [walk]
    congr 1
    rw [List.take_of_length_le (by omega)] at h3
    rw [h3, show i = n by omega]
  | succ m ih =>
    intro i s h1 h2 h3
    simp only [walk]
    rw [hb i s _ (by omega) h2]
    refine ih (i + 1) _ (by omega) (by simp [h2]) ?_
    rw [List.take_add_one, List.take_set_of_le (Nat.le_refl i), h3, List.getElem?_set_self (by omega), List.range_succ, List.map_append]
    rfl
theorem digits_range : ∀ (n : Nat) (s : Int), M.digits n s = (List.range n).map fun i => s / 256 ^ (n - 1 - i) % 256 := by
  intro n
  induction n with
  | zero => intro s; rfl
  | succ n ih =>
    intro s
    rw [M.digits, ih, List.range_succ, List.map_append]
    congr 1
    · apply List.map_congr_left
      intro i hi
      have hi : i < n := by simpa using hi
      rw [Int.ediv_ediv_of_nonneg (by omega), Int.mul_comm, ← Int.pow_succ, show (n - 1 - i).succ = n + 1 - 1 - i by omega]
    · simp
theorem impl_BytesOf_j1_eq {u : Nat} (hu : 1099511627776 ≤ u) (s : Int) (n : Nat) (hn : n ≤ 6) : impl_BytesOf_j1 u s (n : Int) = some (if 1 ≤ s ∧ s / 256 ^ n = 1 then (M.digits n s, true) else ([], false)) := by
  unfold impl_BytesOf_j1
  by_cases h1 : s < 1
  · have : ¬ (1 ≤ s) := by omega
    simp [h1, this, impl_BytesOf_j2]
  · rw [bMul_i64 (by omega) (by omega), bShr8j _ _ (by omega), chk_dec (by omega)]
    by_cases h2 : s / 256 ^ n = 1
    · have h3 : (1 : Int) ≤ s := by omega
      simp only [h1, decide_false, cond_false, Option.bind_some, h2, h3, true_and, if_true]
      unfold impl_BytesOf_j2
      rw [show ((1 : Int) != 1) = false by decide]
      simp only [cond_false, beq_self_eq_true, Bool.or_true, Bool.and_true, Int.toNat_natCast]
      rw [chk_dec (by omega), chk_dec (by omega)]
      simp only [Option.bind_some]
      rw [impl_BytesOf_l4_w u s n _ u (by simp; omega) (by simp; omega)]
      simp only [List.length_replicate, Int.toNat_natCast]
      rw [walk_fill (fun i => s / 256 ^ (n - 1 - i) % 256) n _ n 0 _ (by omega) (by simp) (by simp), ← digits_range]
      · rfl
      · intro i t k hi ht
        unfold impl_BytesOf_l4_b
        have e : bSub .i64 (bSub .i64 (n : Int) 1) (i : Int) = ((n - 1 - i : Nat) : Int) := by
          rw [bSub_i64 (a := (n : Int)) (by omega) (by omega), bSub_i64 (by omega) (by omega)]; omega
        rw [e, bMul_i64 (by omega) (by omega), bShr8j _ _ (by omega), chk_dec (by omega), wrap_u8, idx_nat, List.getElem?_eq_getElem (by omega)]
        simp
    · have : (s / 256 ^ n != 1) = true := by simpa using h2
      simp only [h1, decide_false, cond_false, Option.bind_some, this]
      simp [impl_BytesOf_j2, h2]
theorem impl_BytesOf_l5_eq {u : Nat} (hu : 1099511627776 ≤ u) (s : Int) : ∀ (m n k : Nat), n + m = 6 → m < k → impl_BytesOf_l5 u k s (n : Int) = impl_BytesOf_j1 u s ((n + M.nOf m (s / 256 ^ n) : Nat) : Int) := by
  intro m
  induction m with
  | zero =>
    intro n k h1 h2
    obtain ⟨k, rfl⟩ : ∃ j, k = j + 1 := ⟨k - 1, by omega⟩
    unfold impl_BytesOf_l5
    have : ¬ ((n : Int) < 6) := by omega
    simp [this, impl_BytesOf_j6, M.nOf]
  | succ m ih =>
    intro n k h1 h2
    obtain ⟨k, rfl⟩ : ∃ j, k = j + 1 := ⟨k - 1, by omega⟩
    unfold impl_BytesOf_l5
    have h3 : (n : Int) < 6 := by omega
    rw [bMul_i64 (by omega) (by omega), bShr8j _ _ (by omega), chk_dec (by omega)]
    simp only [h3, decide_true, cond_true, Option.bind_some, impl_BytesOf_j6, M.nOf]
    by_cases h4 : s / 256 ^ n > 1
    · have h4' : 1 < s / 256 ^ n := h4
      simp only [h4, decide_true, cond_true, h4', if_true]
      rw [bAdd_succ (by omega), ih (n + 1) k (by omega) (by omega), Int.pow_succ, ← Int.ediv_ediv_of_nonneg (Int.le_of_lt (Int.pow_pos (by omega)))]
      congr 1
      omega
    · have h4' : ¬ 1 < s / 256 ^ n := h4
      simp only [h4, decide_false, cond_false, h4', if_false]
      simp
theorem impl_BytesOf_eq {u : Nat} (hu : 1099511627776 ≤ u) (s : Int) : impl_BytesOf u s = some (M.bytesOf s) := by
  unfold impl_BytesOf
  have := impl_BytesOf_l5_eq hu s 6 0 u (by omega) (by omega)
  simp only [Int.natCast_zero, Int.pow_zero, Int.ediv_one, Nat.zero_add] at this
  rw [this, impl_BytesOf_j1_eq hu s _ (nOf_le 6 s)]
  unfold M.bytesOf
  by_cases h : s < 1
  · have : ¬ (1 ≤ s) := by omega
    simp [h, this]
  · rw [if_neg h, bytesR_eq 6 s (by omega), endOf_eq]
    have : 1 ≤ s := by omega
    by_cases h2 : s / 256 ^ M.nOf 6 s = 1 <;> simp [h2, this]
def M.valS : List Int → Int → Int
  | [], s => s
  | c :: b, s => M.valS b (256 * s + c)
def M.sumOf (b : List Int) : Sum := if 6 < b.length then ⟨0, 0⟩ else ⟨M.weakOf b, M.valS b 1⟩
theorem valS_app (a b : List Int) : ∀ s, M.valS (a ++ b) s = M.valS b (M.valS a s) := by
  induction a with
  | nil => intro s; rfl
  | cons c a ih => intro s; exact ih _
theorem valS_digits : ∀ (n : Nat) (s : Int), s / 256 ^ n = 1 → M.valS (M.digits n s) 1 = s := by
  intro n
  induction n with
  | zero => intro s h; simpa [M.digits, M.valS] using h.symm
  | succ n ih =>
    intro s h
    rw [M.digits, valS_app, ih]
    · simp only [M.valS]; omega
    · rw [Int.ediv_ediv_of_nonneg (by omega), Int.mul_comm, ← Int.pow_succ]; exact h
theorem sumOf_bytesOf {s : Int} {b : List Int} (h : M.bytesOf s = (b, true)) : M.sumOf b = ⟨M.weakOf b, s⟩ := by
  have ⟨h1, h2, h3, h4⟩ := bytesOf_some h
  unfold M.sumOf
  have := valS_digits b.length s h2
  rw [← h3] at this
  rw [if_neg (by omega), this]
theorem valS_bound : ∀ (b : List Int) (s : Int) (n : Nat), M.isBytes b → 0 ≤ s → s < 256 ^ n * 2 → 0 ≤ M.valS b s ∧ M.valS b s < 256 ^ (n + b.length) * 2 := by
  intro b
  induction b with
  | nil => intro s n _ h1 h2; exact ⟨h1, h2⟩
  | cons c b ih =>
    intro s n hb h1 h2
    have hc := hb c (by simp)
    have := ih (256 * s + c) (n + 1) (fun z hz => hb z (by simp [hz])) (by omega) (by rw [Int.pow_succ]; omega)
    simp only [List.length_cons, M.valS]
    rwa [show n + (b.length + 1) = n + 1 + b.length by omega]
theorem spec_SumOf_w (u : Nat) : ∀ (p b : List Int) (i : Nat) (s : Int) (n : Nat), M.isBytes b → 0 ≤ s → s < 256 ^ n * 2 → n + b.length ≤ 6 →
    wlist (spec_SumOf_l2_f u p) (spec_SumOf_l2_b u p) b i s = spec_SumOf_j1 u p (M.valS b s) := by
  intro p b
  induction b with
  | nil => intros; rfl
  | cons c b ih =>
    intro i s n hb h1 h2 h3
    have hc := hb c (by simp)
    simp only [List.length_cons] at h3
    have hp : (256 : Int) ^ n ≤ 1099511627776 := by
      rcases (show n = 0 ∨ n = 1 ∨ n = 2 ∨ n = 3 ∨ n = 4 ∨ n = 5 by omega) with rfl | rfl | rfl | rfl | rfl | rfl <;> decide
    simp only [wlist, spec_SumOf_l2_b]
    rw [wrap_i64 (by omega) (by omega), bMul_i64 (by omega) (by omega), bAdd_i64 (by omega) (by omega)]
    exact ih (i + 1) _ (n + 1) (fun z hz => hb z (by simp [hz])) (by omega) (by rw [Int.pow_succ]; omega) (by omega)
theorem spec_SumOf_eq {u : Nat} (hu : 1099511627776 ≤ u) {b : List Int} (hb : M.isBytes b) (hl : b.length ≤ 1073741824) : spec_SumOf u b = some (M.sumOf b) := by
  unfold spec_SumOf M.sumOf
  by_cases h : 6 < b.length
  · have : (b.length : Int) > 6 := by omega
    simp [h, this]
  · have : ¬ ((b.length : Int) > 6) := by omega
    simp only [this, decide_false, cond_false, h, if_false]
    rw [spec_SumOf_l2_w u b 1 u (by omega) (by omega), spec_SumOf_w u b b 0 1 0 hb (by omega) (by decide) (by omega)]
    unfold spec_SumOf_j1
    rw [spec_WeakOf_eq hu hb hl]
    rfl
def M.sumFit (size len : Int) (i : Nat) (s : Sum) : Bool := (M.bytesOf s.fS).2 && ((M.bytesOf s.fS).1.length == (M.spanOf size len i).2) && (M.weakOf (M.bytesOf s.fS).1 == s.fW)
def M.sumsFit (size len : Int) : List Sum → Nat → Bool
  | [], _ => true
  | s :: l, i => M.sumFit size len i s && M.sumsFit size len l (i + 1)
def M.manOk (m : Manifest) : Bool :=
  if m.fGen = 0 then m.fSize == 0 && m.fLen == 0 && m.fSums.length == 0
  else M.within m.fGen 1 1000000 && M.sizeOk m.fSize m.fLen && ((m.fSums.length : Int) == M.blocks m.fSize m.fLen) && M.sumsFit m.fSize m.fLen m.fSums 0
theorem ne_beq (a b : Int) : (a != b) = !(a == b) := rfl
theorem impl_ManOk_w {u : Nat} (hu : 1099511627776 ≤ u) (m : Manifest) : ∀ (l : List Sum) (i : Nat), wlist (impl_ManOk_l3_f u m) (impl_ManOk_l3_b u m) l i () = some (M.sumsFit m.fSize m.fLen l i) := by
  intro l
  induction l with
  | nil => intro i; rfl
  | cons s l ih =>
    intro i
    have hb := bytesOf_bytes s.fS
    simp only [wlist, impl_ManOk_l3_b, impl_BytesOf_eq hu, impl_SpanOf_eq, Option.bind_some, M.sumsFit, M.sumFit, impl_ManOk_j4, ih, impl_WeakOf_eq hu hb.1 (show _ ≤ _ by omega), ne_beq]
    cases (M.bytesOf s.fS).2 <;> cases (((M.bytesOf s.fS).1.length : Int) == (M.spanOf m.fSize m.fLen ↑i).2) <;> cases (M.weakOf (M.bytesOf s.fS).1 == s.fW) <;> simp
theorem spec_ManOk_w {u : Nat} (hu : 1099511627776 ≤ u) (m : Manifest) : ∀ (l : List Sum) (i : Nat), l = m.fSums.drop i → wlist (spec_ManOk_l3_f u m) (spec_ManOk_l3_b u m) l i () = some (M.sumsFit m.fSize m.fLen l i) := by
  intro l
  induction l with
  | nil => intro i _; rfl
  | cons s l ih =>
    intro i hd
    have hb := bytesOf_bytes s.fS
    have hx : m.fSums[i]? = some s := by
      have := congrArg List.head? hd
      simpa [List.head?_drop] using this.symm
    have hl : l = m.fSums.drop (i + 1) := by
      have := congrArg List.tail hd
      simpa [List.tail_drop] using this
    simp only [wlist, spec_ManOk_l3_b, spec_BytesOf_eq hu, spec_SpanOf_eq, Option.bind_some, M.sumsFit, M.sumFit, spec_ManOk_j4, ih (i + 1) hl, spec_SumOf_eq hu hb.1 (show _ ≤ _ by omega), ne_beq, idx_nat, hx]
    cases h : (M.bytesOf s.fS).2 with
    | false => simp
    | true =>
      have h2 := sumOf_bytesOf (s := s.fS) (b := (M.bytesOf s.fS).1) (by rw [← h])
      rw [h2]
      have h3 : (([M.weakOf (M.bytesOf s.fS).1, s.fS] : List Int) == [s.fW, s.fS]) = (M.weakOf (M.bytesOf s.fS).1 == s.fW) := by simp
      simp only [h3]
      cases (((M.bytesOf s.fS).1.length : Int) == (M.spanOf m.fSize m.fLen ↑i).2) <;> cases (M.weakOf (M.bytesOf s.fS).1 == s.fW) <;> simp
theorem impl_ManOk_eq {u : Nat} (hu : 1099511627776 ≤ u) (m : Manifest) (hl : m.fSums.length ≤ 1073741824) : impl_ManOk u m = some (M.manOk m) := by
  unfold impl_ManOk M.manOk impl_isZeroMan impl_ManOk_j1
  simp only [impl_within_eq, impl_SizeOk_eq, impl_Blocks_eq, Option.bind_some, ne_beq, impl_ManOk_l3_w u m () u (by omega) (by omega), impl_ManOk_w hu]
  have e0 : (((m.fSums.length : Int)) == 0) = (m.fSums.length == 0) := by rw [Bool.eq_iff_iff]; simp
  by_cases h : m.fGen = 0
  · have : M.within m.fGen 1 1000000 = false := by rw [h]; rfl
    simp only [h, if_true, beq_self_eq_true, cond_true, e0] at this ⊢
    cases (m.fSize == 0) <;> cases (m.fLen == 0) <;> cases (m.fSums.length == 0) <;> simp [this]
  · have : (m.fGen == 0) = false := by simpa using h
    simp only [h, if_false, this, cond_false, Option.bind_some]
    cases M.within m.fGen 1 1000000 <;> cases M.sizeOk m.fSize m.fLen <;> cases ((m.fSums.length : Int) == M.blocks m.fSize m.fLen) <;> simp
theorem spec_ManOk_eq {u : Nat} (hu : 1099511627776 ≤ u) (m : Manifest) (hl : m.fSums.length ≤ 1073741824) : spec_ManOk u m = some (M.manOk m) := by
  unfold spec_ManOk M.manOk spec_ManOk_j1
  simp only [spec_l1In_eq, spec_SizeOk_eq, spec_Blocks_eq, Option.bind_some, ne_beq, spec_ManOk_l3_w u m () u (by omega) (by omega), spec_ManOk_w hu m m.fSums 0 (by simp)]
  have e0 : (((m.fSums.length : Int)) == 0) = (m.fSums.length == 0) := by rw [Bool.eq_iff_iff]; simp
  by_cases h : m.fGen = 0
  · simp only [h, if_true, beq_self_eq_true, cond_true, e0]
    cases (m.fSize == 0) <;> cases (m.fLen == 0) <;> cases (m.fSums.length == 0) <;> simp
  · have : (m.fGen == 0) = false := by simpa using h
    simp only [h, if_false, this, cond_false, Option.bind_some]
    cases M.within m.fGen 1 1000000 <;> cases M.sizeOk m.fSize m.fLen <;> cases ((m.fSums.length : Int) == M.blocks m.fSize m.fLen) <;> simp
def M.var : Nat → Int → List Int
  | 0, n => [n % 256]
  | k + 1, n => if n ≤ 127 then [n % 256] else (n % 128 + 128) :: M.var k (n / 128)
def M.putVar (b : List Int) (n : Int) : List Int := if M.within n 0 1000000000000 then b ++ M.var 9 n else b
theorem or128 : ∀ a : Nat, a < 256 → (a ||| 128) = a % 128 + 128 := by decide +kernel
theorem bOr_u8 (a : Int) (h1 : 0 ≤ a) (h2 : a < 256) : bOr .u8 a 128 = a % 128 + 128 := by
  unfold bOr
  have e : (BitVec.ofInt (IntKind.bits .u8) a ||| BitVec.ofInt (IntKind.bits .u8) 128).toNat = (a % 128 + 128).toNat := by
    change (BitVec.ofInt 8 a ||| BitVec.ofInt 8 128).toNat = _
    rw [BitVec.toNat_or, BitVec.toNat_ofInt, BitVec.toNat_ofInt, show ((128 : Int) % ((2 ^ 8 : Nat) : Int)).toNat = 128 by decide, or128 _ (by omega)]
    omega
  rw [e, wrap_u8]; omega
theorem bAnd127 (a : Int) : bAnd .i64 a 127 = a % 128 := by
  unfold bAnd
  have e : (BitVec.ofInt (IntKind.bits .i64) a &&& BitVec.ofInt (IntKind.bits .i64) 127).toNat = (a % 128).toNat := by
    change (BitVec.ofInt 64 a &&& BitVec.ofInt 64 127).toNat = (a % 128).toNat
    rw [BitVec.toNat_and, BitVec.toNat_ofInt, BitVec.toNat_ofInt, show ((127 : Int) % ((2 ^ 64 : Nat) : Int)).toNat = 2 ^ 7 - 1 by decide, Nat.and_two_pow_sub_one_eq_mod]
    omega
  rw [e]
  exact (wrap_i64 (by omega) (by omega)).trans (by omega)
theorem bOr_i64 (a : Int) (h1 : 0 ≤ a) (h2 : a < 256) : bOr .i64 a 128 = a % 128 + 128 := by
  unfold bOr
  have e : (BitVec.ofInt (IntKind.bits .i64) a ||| BitVec.ofInt (IntKind.bits .i64) 128).toNat = (a % 128 + 128).toNat := by
    change (BitVec.ofInt 64 a ||| BitVec.ofInt 64 128).toNat = _
    rw [BitVec.toNat_or, BitVec.toNat_ofInt, BitVec.toNat_ofInt, show ((128 : Int) % ((2 ^ 64 : Nat) : Int)).toNat = 128 by decide, show (a % ((2 ^ 64 : Nat) : Int)).toNat = a.toNat by omega, or128 _ (by omega)]
    omega
  rw [e]
  exact (wrap_i64 (by omega) (by omega)).trans (by omega)
theorem var_length : ∀ (k : Nat) (n : Int), (M.var k n).length ≤ k + 1 := by
  intro k
  induction k with
  | zero => intro n; simp [M.var]
  | succ k ih =>
    intro n
    unfold M.var
    have := ih (n / 128)
    split <;> simp <;> omega
theorem impl_appendVar_l2_eq (u : Nat) : ∀ (j k : Nat) (n : Int) (b : List Int), n < 128 ^ (j + 1) → j < k → b.length + j ≤ 1099511627776 → impl_appendVar_l2 u k b n = some (b ++ M.var j n) := by
  intro j
  induction j with
  | zero =>
    intro k n b h1 h2 h3
    obtain ⟨k, rfl⟩ : ∃ i, k = i + 1 := ⟨k - 1, by omega⟩
    unfold impl_appendVar_l2
    have : ¬ (n ≥ 128) := by simp at h1; omega
    simp only [this, decide_false, cond_false, impl_appendVar_j1, M.var, wrap_u8]
    rw [chk_dec (by simp; omega)]; rfl
  | succ j ih =>
    intro k n b h1 h2 h3
    obtain ⟨k, rfl⟩ : ∃ i, k = i + 1 := ⟨k - 1, by omega⟩
    unfold impl_appendVar_l2
    by_cases h : n ≥ 128
    · have h' : ¬ n ≤ 127 := by omega
      simp only [h, decide_true, cond_true, M.var, h', if_false, wrap_u8, bShr7]
      rw [chk_dec (by simp; omega), bOr_u8 _ (by omega) (by omega)]
      simp only [Option.bind_some]
      rw [ih k (n / 128) _ (by rw [Int.pow_succ] at h1; omega) (by omega) (by simp; omega), show n % 256 % 128 = n % 128 by omega]
      simp
    · have h' : n ≤ 127 := by omega
      simp only [h, decide_false, cond_false, M.var, h', if_true, impl_appendVar_j1, wrap_u8]
      rw [chk_dec (by simp; omega)]; rfl
theorem spec_l6PutSum_l2_eq (u : Nat) : ∀ (j k : Nat) (n : Int) (b : List Int), n < 128 ^ (j + 1) → j < k → b.length + j ≤ 1099511627776 → spec_l6PutSum_l2 u k b n = some (b ++ M.var j n) := by
  intro j
  induction j with
  | zero =>
    intro k n b h1 h2 h3
    obtain ⟨k, rfl⟩ : ∃ i, k = i + 1 := ⟨k - 1, by omega⟩
    unfold spec_l6PutSum_l2
    have : ¬ (n > 127) := by simp at h1; omega
    simp only [this, decide_false, cond_false, spec_l6PutSum_j1, M.var, wrap_u8]
    rw [chk_dec (by simp; omega)]; rfl
  | succ j ih =>
    intro k n b h1 h2 h3
    obtain ⟨k, rfl⟩ : ∃ i, k = i + 1 := ⟨k - 1, by omega⟩
    unfold spec_l6PutSum_l2
    by_cases h : n > 127
    · have h' : ¬ n ≤ 127 := by omega
      simp only [h, decide_true, cond_true, M.var, h', if_false, wrap_u8, bShr7, bAnd127]
      rw [chk_dec (by simp; omega), bOr_i64 _ (by omega) (by omega)]
      simp only [Option.bind_some]
      rw [ih k (n / 128) _ (by rw [Int.pow_succ] at h1; omega) (by omega) (by simp; omega), show (n % 128 % 128 + 128) % 256 = n % 128 + 128 by omega]
      simp
    · have h' : n ≤ 127 := by omega
      simp only [h, decide_false, cond_false, M.var, h', if_true, spec_l6PutSum_j1, wrap_u8]
      rw [chk_dec (by simp; omega)]; rfl
theorem spec_PutVar_l2_eq (u : Nat) : ∀ (j k : Nat) (n : Int) (b : List Int), n < 128 ^ (j + 1) → j < k → b.length + j ≤ 1099511627776 → spec_PutVar_l2 u k n b = some (b ++ M.var j n) := by
  intro j
  induction j with
  | zero =>
    intro k n b h1 h2 h3
    obtain ⟨k, rfl⟩ : ∃ i, k = i + 1 := ⟨k - 1, by omega⟩
    unfold spec_PutVar_l2
    have : ¬ (n > 127) := by simp at h1; omega
    simp only [this, decide_false, cond_false, spec_PutVar_j1, M.var, wrap_u8]
    rw [chk_dec (by simp; omega)]; rfl
  | succ j ih =>
    intro k n b h1 h2 h3
    obtain ⟨k, rfl⟩ : ∃ i, k = i + 1 := ⟨k - 1, by omega⟩
    unfold spec_PutVar_l2
    by_cases h : n > 127
    · have h' : ¬ n ≤ 127 := by omega
      simp only [h, decide_true, cond_true, M.var, h', if_false, wrap_u8, bShr7, bAnd127]
      rw [chk_dec (by simp; omega), bOr_i64 _ (by omega) (by omega)]
      simp only [Option.bind_some]
      rw [ih k (n / 128) _ (by rw [Int.pow_succ] at h1; omega) (by omega) (by simp; omega), show (n % 128 % 128 + 128) % 256 = n % 128 + 128 by omega]
      simp
    · have h' : n ≤ 127 := by omega
      simp only [h, decide_false, cond_false, M.var, h', if_true, spec_PutVar_j1, wrap_u8]
      rw [chk_dec (by simp; omega)]; rfl
theorem p128 : (128 : Int) ^ (9 + 1) = 1180591620717411303424 := by decide
theorem impl_appendVar_eq {u : Nat} (hu : 1099511627776 ≤ u) {b : List Int} {n : Int} (hl : b.length ≤ 1073741824) (hn : n ≤ 9223372036854775807) : impl_appendVar u b n = some (b ++ M.var 9 n) :=
  impl_appendVar_l2_eq u 9 u n b (by rw [p128]; omega) (by omega) (by omega)
theorem spec_l6PutSum_eq {u : Nat} (hu : 1099511627776 ≤ u) {b : List Int} {n : Int} (hl : b.length ≤ 1073741824) (hn : n ≤ 9223372036854775807) : spec_l6PutSum u b n = some (b ++ M.var 9 n) :=
  spec_l6PutSum_l2_eq u 9 u n b (by rw [p128]; omega) (by omega) (by omega)
theorem impl_cloned_eq (u : Nat) {b : List Int} (hl : b.length ≤ 1073741824) : impl_cloned u b = some b := by
  unfold impl_cloned
  rw [chk_dec (by simp; omega), chk_dec (by simp; omega)]
  simp [chk]
theorem impl_PutVar_eq {u : Nat} (hu : 1099511627776 ≤ u) {b : List Int} {n : Int} (hl : b.length ≤ 1073741824) : impl_PutVar u b n = some (M.putVar b n) := by
  unfold impl_PutVar M.putVar
  simp only [impl_cloned_eq u hl, impl_within_eq, Option.bind_some]
  cases h : M.within n 0 1000000000000 with
  | false => simp
  | true => have := within_t h; simp [impl_appendVar_eq hu hl (show n ≤ 9223372036854775807 by omega)]
theorem spec_PutVar_eq {u : Nat} (hu : 1099511627776 ≤ u) {b : List Int} {n : Int} (hl : b.length ≤ 1073741824) : spec_PutVar u b n = some (M.putVar b n) := by
  unfold spec_PutVar M.putVar
  rw [chk_dec (by simp; omega)]
  simp only [spec_l1In_eq, Option.bind_some, List.nil_append]
  cases h : M.within n 0 1000000000000 with
  | false => simp
  | true => have := within_t h; simp [spec_PutVar_l2_eq u 9 u n b (by rw [p128]; omega) (by omega) (by omega)]
theorem putVar_length (b : List Int) (n : Int) : (M.putVar b n).length ≤ b.length + 10 := by
  unfold M.putVar
  have := var_length 9 n
  split <;> simp <;> omega
def M.putSums (b : List Int) : List Sum → List Int
  | [] => b
  | s :: l => M.putSums (b ++ M.var 9 s.fS) l
def M.putMan (b : List Int) (m : Manifest) : List Int := if M.manOk m then M.putSums (M.putVar (M.putVar (M.putVar b m.fGen) m.fSize) m.fLen) m.fSums else b
def M.manWf (m : Manifest) : Prop := ∀ s ∈ m.fSums, s.fS ≤ 9223372036854775807
theorem manOk_len {m : Manifest} (h : M.manOk m = true) : m.fSums.length ≤ 40 := by
  unfold M.manOk at h
  split at h
  · simp only [Bool.and_eq_true, beq_iff_eq] at h
    have := h.2
    omega
  · have := blocks_range m.fSize m.fLen
    simp only [Bool.and_eq_true, beq_iff_eq] at h
    omega
theorem impl_PutMan_w {u : Nat} (hu : 1099511627776 ≤ u) (m : Manifest) : ∀ (l : List Sum) (i : Nat) (b : List Int), (∀ s ∈ l, s.fS ≤ 9223372036854775807) → b.length + 10 * l.length ≤ 1073741824 →
    wlist (impl_PutMan_l2_f u m) (impl_PutMan_l2_b u m) l i b = some (M.putSums b l) := by
  intro l
  induction l with
  | nil => intros; rfl
  | cons s l ih =>
    intro i b h1 h2
    simp only [List.length_cons] at h2
    have h3 := var_length 9 s.fS
    simp only [wlist, impl_PutMan_l2_b, impl_appendVar_eq hu (show b.length ≤ 1073741824 by omega) (h1 s (by simp)), Option.bind_some, M.putSums]
    exact ih (i + 1) _ (fun z hz => h1 z (by simp [hz])) (by simp; omega)
theorem spec_PutMan_w {u : Nat} (hu : 1099511627776 ≤ u) (m : Manifest) : ∀ (l : List Sum) (i : Nat) (b : List Int), (∀ s ∈ l, s.fS ≤ 9223372036854775807) → b.length + 10 * l.length ≤ 1073741824 →
    wlist (spec_PutMan_l2_f u m) (spec_PutMan_l2_b u m) l i b = some (M.putSums b l) := by
  intro l
  induction l with
  | nil => intros; rfl
  | cons s l ih =>
    intro i b h1 h2
    simp only [List.length_cons] at h2
    have h3 := var_length 9 s.fS
    simp only [wlist, spec_PutMan_l2_b, spec_l6PutSum_eq hu (show b.length ≤ 1073741824 by omega) (h1 s (by simp)), Option.bind_some, M.putSums]
    exact ih (i + 1) _ (fun z hz => h1 z (by simp [hz])) (by simp; omega)
theorem impl_PutMan_eq {u : Nat} (hu : 1099511627776 ≤ u) {b : List Int} {m : Manifest} (hl : b.length ≤ 536870912) (hm : m.fSums.length ≤ 1073741824) (hw : M.manWf m) : impl_PutMan u b m = some (M.putMan b m) := by
  unfold impl_PutMan M.putMan
  have h1 := putVar_length b m.fGen
  have h2 := putVar_length (M.putVar b m.fGen) m.fSize
  have h3 := putVar_length (M.putVar (M.putVar b m.fGen) m.fSize) m.fLen
  rw [impl_ManOk_eq hu m hm]
  cases h : M.manOk m with
  | false => simp [impl_cloned_eq u (show b.length ≤ 1073741824 by omega)]
  | true =>
    have h4 := manOk_len h
    simp only [Option.bind_some, Bool.not_true, cond_false, if_true]
    rw [impl_PutVar_eq hu (by omega)]; simp only [Option.bind_some]
    rw [impl_PutVar_eq hu (by omega)]; simp only [Option.bind_some]
    rw [impl_PutVar_eq hu (by omega)]; simp only [Option.bind_some]
    rw [impl_PutMan_l2_w u m _ u (by omega) (by omega), impl_PutMan_w hu m _ _ _ hw (by omega)]
theorem spec_PutMan_eq {u : Nat} (hu : 1099511627776 ≤ u) {b : List Int} {m : Manifest} (hl : b.length ≤ 536870912) (hm : m.fSums.length ≤ 1073741824) (hw : M.manWf m) : spec_PutMan u b m = some (M.putMan b m) := by
  unfold spec_PutMan M.putMan
  have h1 := putVar_length b m.fGen
  have h2 := putVar_length (M.putVar b m.fGen) m.fSize
  have h3 := putVar_length (M.putVar (M.putVar b m.fGen) m.fSize) m.fLen
  rw [chk_dec (by simp; omega), spec_ManOk_eq hu m hm]
  simp only [List.nil_append, Option.bind_some]
  cases h : M.manOk m with
  | false => simp
  | true =>
    have h4 := manOk_len h
    simp only [Option.bind_some, Bool.not_true, cond_false, if_true]
    rw [spec_PutVar_eq hu (by omega)]; simp only [Option.bind_some]
    rw [spec_PutVar_eq hu (by omega)]; simp only [Option.bind_some]
    rw [spec_PutVar_eq hu (by omega)]; simp only [Option.bind_some]
    rw [spec_PutMan_l2_w u m _ u (by omega) (by omega), spec_PutMan_w hu m _ _ _ hw (by omega)]
def M.manBytes (m : Manifest) : Int := (M.putMan [] m).length
theorem impl_ManBytes_eq {u : Nat} (hu : 1099511627776 ≤ u) {m : Manifest} (hm : m.fSums.length ≤ 1073741824) (hw : M.manWf m) : impl_ManBytes u m = some (M.manBytes m) := by
  unfold impl_ManBytes
  rw [impl_PutMan_eq hu (by simp) hm hw]; rfl
theorem spec_ManBytes_eq {u : Nat} (hu : 1099511627776 ≤ u) {m : Manifest} (hm : m.fSums.length ≤ 1073741824) (hw : M.manWf m) : spec_ManBytes u m = some (M.manBytes m) := by
  unfold spec_ManBytes
  rw [spec_PutMan_eq hu (by simp) hm hw]; rfl
theorem toNat_ofInt64 {a : Int} (h1 : 0 ≤ a) (h2 : a < 18446744073709551616) : (BitVec.ofInt 64 a).toNat = a.toNat := by
  rw [BitVec.toNat_ofInt]; omega
theorem bOr_nat {a b : Nat} (h1 : a < 9223372036854775808) (h2 : b < 9223372036854775808) : bOr .i64 (a : Int) (b : Int) = ((a ||| b : Nat) : Int) := by
  unfold bOr
  have e : (BitVec.ofInt (IntKind.bits .i64) (a : Int) ||| BitVec.ofInt (IntKind.bits .i64) (b : Int)).toNat = a ||| b := by
    change (BitVec.ofInt 64 (a : Int) ||| BitVec.ofInt 64 (b : Int)).toNat = _
    rw [BitVec.toNat_or, toNat_ofInt64 (by omega) (by omega), toNat_ofInt64 (by omega) (by omega)]; rfl
  rw [e]
  have : a ||| b < 2 ^ 63 := Nat.or_lt_two_pow (by omega) (by omega)
  exact wrap_i64 (by omega) (by omega)
theorem bAnd_nat {a b : Nat} (h1 : a < 9223372036854775808) (h2 : b < 9223372036854775808) : bAnd .i64 (a : Int) (b : Int) = ((a &&& b : Nat) : Int) := by
  unfold bAnd
  have e : (BitVec.ofInt (IntKind.bits .i64) (a : Int) &&& BitVec.ofInt (IntKind.bits .i64) (b : Int)).toNat = a &&& b := by
    change (BitVec.ofInt 64 (a : Int) &&& BitVec.ofInt 64 (b : Int)).toNat = _
    rw [BitVec.toNat_and, toNat_ofInt64 (by omega) (by omega), toNat_ofInt64 (by omega) (by omega)]; rfl
  rw [e]
  have : a &&& b ≤ a := Nat.and_le_left
  exact wrap_i64 (by omega) (by omega)
theorem bShl1_nat {i : Nat} (h : i ≤ 62) : bShl .i64 1 (i : Int) = ((2 ^ i : Nat) : Int) := by
  unfold bShl
  rw [show min (Int.toNat (i : Int)) (IntKind.bits .i64) = i by simp [IntKind.bits]; omega]
  have h1 : (2 : Nat) ^ i ≤ 2 ^ 62 := Nat.pow_le_pow_right (by omega) h
  have h2 : (1 : Int) * 2 ^ i = ((2 ^ i : Nat) : Int) := by simp
  rw [h2]
  generalize (2 : Nat) ^ i = p at h1
  exact wrap_i64 (by omega) (by omega)
theorem bShr_nat {a i : Nat} (h : i ≤ 64) : bShr .i64 (a : Int) (i : Int) = ((a / 2 ^ i : Nat) : Int) := by
  rw [bShr_k .i64 _ i h]; simp
def M.setBy : Nat → (Nat → Bool) → Nat
  | 0, _ => 0
  | n + 1, f => M.setBy n f ||| (if f n then 2 ^ n else 0)
theorem testBit_setBy (f : Nat → Bool) : ∀ (n i : Nat), (M.setBy n f).testBit i = (decide (i < n) && f i) := by
  intro n
  induction n with
  | zero => intro i; simp [M.setBy]
  | succ n ih =>
    intro i
    rw [M.setBy, Nat.testBit_or, ih]
    by_cases h : i = n
    · subst h
      cases f i <;> simp [Nat.testBit_two_pow_self]
    · have h1 : (if f n = true then 2 ^ n else 0).testBit i = false := by
        split
        · exact Nat.testBit_two_pow_of_ne (Ne.symm h)
        · simp
      rw [h1, Bool.or_false]
      congr 1
      rw [decide_eq_decide]; omega
theorem setBy_lt (f : Nat → Bool) (n : Nat) : M.setBy n f < 2 ^ n := by
  induction n with
  | zero => simp [M.setBy]
  | succ n ih =>
    rw [M.setBy]
    refine Nat.or_lt_two_pow (by rw [Nat.pow_succ]; omega) ?_
    have := Nat.pow_lt_pow_right (a := 2) (by omega) (Nat.lt_succ_self n)
    split <;> omega
theorem setBy_congr {f g : Nat → Bool} : ∀ {n : Nat}, (∀ i, i < n → f i = g i) → M.setBy n f = M.setBy n g := by
  intro n h
  apply Nat.eq_of_testBit_eq
  intro i
  rw [testBit_setBy, testBit_setBy]
  by_cases hi : i < n
  · rw [h i hi]
  · simp [hi]
theorem bAndNot_nat {a b n : Nat} (hn : n ≤ 62) (h1 : a < 2 ^ n) (h2 : b < 2 ^ n) : bAndNot .i64 (a : Int) (b : Int) = ((M.setBy n (fun i => a.testBit i && !b.testBit i) : Nat) : Int) := by
  have hp : (2 : Nat) ^ n ≤ 2 ^ 62 := Nat.pow_le_pow_right (by omega) hn
  unfold bAndNot
  have e : (BitVec.ofInt (IntKind.bits .i64) (a : Int) &&& ~~~ BitVec.ofInt (IntKind.bits .i64) (b : Int)).toNat = M.setBy n (fun i => a.testBit i && !b.testBit i) := by
    change (BitVec.ofInt 64 (a : Int) &&& ~~~ BitVec.ofInt 64 (b : Int)).toNat = _
    apply Nat.eq_of_testBit_eq
    intro i
    rw [testBit_setBy, BitVec.toNat_and, Nat.testBit_and, toNat_ofInt64 (by omega) (by omega), BitVec.testBit_toNat, BitVec.getLsbD_not]
    have hb : (BitVec.ofInt 64 (b : Int)).getLsbD i = b.testBit i := by rw [← BitVec.testBit_toNat, toNat_ofInt64 (by omega) (by omega)]; rfl
    rw [hb]
    have ha : ((a : Int).toNat).testBit i = a.testBit i := by simp
    rw [ha]
    by_cases hi : i < n
    · have : i < 64 := by omega
      simp [hi, this]
    · have : a < 2 ^ i := Nat.lt_of_lt_of_le h1 (Nat.pow_le_pow_right (by omega) (by omega))
      simp [hi, Nat.testBit_lt_two_pow this]
  rw [e]
  have := setBy_lt (fun i => a.testBit i && !b.testBit i) n
  exact wrap_i64 (by omega) (by omega)
def M.setOk (s : Int) : Bool := M.within s 0 1099511627775
def M.isPlace (i : Int) : Bool := M.within i 0 39
def M.inSet (s i : Int) : Bool := M.setOk s && M.isPlace i && s.toNat.testBit i.toNat
theorem impl_SetOk_eq (u : Nat) (s : Int) : impl_SetOk u s = some (M.setOk s) := by simp [impl_SetOk, impl_within_eq, M.setOk]
theorem spec_SetOk_eq (u : Nat) (s : Int) : spec_SetOk u s = some (M.setOk s) := by simp [spec_SetOk, spec_l1In_eq, M.setOk]
theorem impl_isPlace_eq (u : Nat) (s : Int) : impl_isPlace u s = some (M.isPlace s) := by simp [impl_isPlace, impl_within_eq, M.isPlace]
theorem bit_eq {s i : Int} (hs : M.setOk s = true) (hi : M.isPlace i = true) : (bAnd .i64 (bShr .i64 s i) 1 == 1) = s.toNat.testBit i.toNat := by
  have h1 := within_t hs
  have h2 := within_t hi
  obtain ⟨a, rfl⟩ := Int.eq_ofNat_of_zero_le h1.1
  obtain ⟨n, rfl⟩ := Int.eq_ofNat_of_zero_le h2.1
  rw [bShr_nat (by omega)]
  have h3 : a / 2 ^ n ≤ a := Nat.div_le_self a _
  rw [show (1 : Int) = ((1 : Nat) : Int) by rfl, bAnd_nat (by omega) (by omega), Nat.and_one_is_mod]
  simp only [Int.toNat_natCast, Nat.testBit_eq_decide_div_mod_eq]
  generalize a / 2 ^ n = z
  rw [Bool.eq_iff_iff, beq_iff_eq, decide_eq_true_eq]; omega
theorem impl_InSet_eq (u : Nat) (s i : Int) : impl_InSet u s i = some (M.inSet s i) := by
  unfold impl_InSet M.inSet
  simp only [impl_SetOk_eq, impl_isPlace_eq, Option.bind_some]
  cases h1 : M.setOk s with
  | false => simp
  | true =>
    cases h2 : M.isPlace i with
    | false => simp
    | true =>
      have h3 := within_t h2
      rw [chk_dec (by omega)]
      simp [bit_eq h1 h2]
theorem spec_InSet_eq (u : Nat) (s i : Int) : spec_InSet u s i = some (M.inSet s i) := by
  unfold spec_InSet M.inSet
  simp only [spec_SetOk_eq, spec_l1In_eq, Option.bind_some]
  cases h1 : M.setOk s with
  | false => simp
  | true =>
    change ((bif true then (bif M.isPlace i then _ else _) else _) : Option Bool) = _
    cases h2 : M.isPlace i with
    | false => simp
    | true =>
      have h3 := within_t h2
      simp only [cond_true]
      rw [chk_dec (by omega)]
      simp [bit_eq h1 h2]
def M.partsIn (s : Int) : List Int := if M.setOk s then ((List.range 40).filter fun i => s.toNat.testBit i).map Int.ofNat else []
theorem walk_choose {α ρ : Type} {fin : List α → Option ρ} {body : Nat → List α → (List α → Option ρ) → Option ρ} (f : Nat → Bool) (g : Nat → α) (n c : Nat) (hb : ∀ i s k, i < n → s.length ≤ c + i → body i s k = k (if f i then s ++ [g i] else s)) :
    ∀ (m i : Nat) (s : List α), i + m = n → s.length ≤ c + i → walk fin body m i s = fin (s ++ (((List.range' i m).filter f).map g)) := by
  intro m
  induction m with
  | zero => intro i s h1 h2; simp [walk]
  | succ m ih =>
    intro i s h1 h2
    simp only [walk]
    rw [hb i s _ (by omega) h2]
    cases hf : f i with
    | true =>
      simp only [if_true]
      rw [ih (i + 1) _ (by omega) (by simp; omega), List.range'_succ, List.filter_cons, hf]
      simp
    | false =>
      simp only [Bool.false_eq_true, if_false]
      rw [ih (i + 1) _ (by omega) (by omega), List.range'_succ, List.filter_cons, hf]
      simp
theorem impl_PartsIn_eq {u : Nat} (hu : 1099511627776 ≤ u) (s : Int) : impl_PartsIn u s = some (M.partsIn s) := by
  unfold impl_PartsIn
  rw [impl_PartsIn_l2_w u s [] u (by omega) (by omega), walk_choose (fun i => M.inSet s i) (fun i => (i : Int)) 40 0 _ (Int.toNat 40) 0 [] (by decide) (by simp)]
  · unfold impl_PartsIn_l2_f impl_PartsIn_j1 M.partsIn
    rw [show Int.toNat 40 = 40 by rfl, ← List.range_eq_range']
    cases h : M.setOk s with
    | false => simp [M.inSet, h]
    | true =>
      simp only [List.nil_append, if_true]
      congr 2
      apply List.filter_congr
      intro i hi
      have hi : i < 40 := by simpa using hi
      have : M.isPlace (i : Int) = true := by simp [M.isPlace, M.within]; omega
      simp [M.inSet, h, this]
  · intro i t k hi ht
    unfold impl_PartsIn_l2_b
    rw [impl_InSet_eq]
    simp only [Option.bind_some]
    cases M.inSet s i with
    | false => simp [impl_PartsIn_j3]
    | true =>
      simp only [cond_true, if_true]
      rw [chk_dec (by simp; omega)]
      simp [impl_PartsIn_j3]
theorem spec_PartsIn_eq {u : Nat} (hu : 1099511627776 ≤ u) (s : Int) : spec_PartsIn u s = some (M.partsIn s) := by
  unfold spec_PartsIn
  rw [spec_PartsIn_l2_w u s [] u (by omega) (by omega), walk_choose (fun i => M.inSet s i) (fun i => (i : Int)) 40 0 _ (Int.toNat 40) 0 [] (by decide) (by simp)]
  · unfold spec_PartsIn_l2_f spec_PartsIn_j1 M.partsIn
    rw [show Int.toNat 40 = 40 by rfl, ← List.range_eq_range']
    cases h : M.setOk s with
    | false => simp [M.inSet, h]
    | true =>
      simp only [List.nil_append, if_true]
      congr 2
      apply List.filter_congr
      intro i hi
      have hi : i < 40 := by simpa using hi
      have : M.isPlace (i : Int) = true := by simp [M.isPlace, M.within]; omega
      simp [M.inSet, h, this]
  · intro i t k hi ht
    unfold spec_PartsIn_l2_b
    rw [spec_InSet_eq]
    simp only [Option.bind_some]
    cases M.inSet s i with
    | false => simp [spec_PartsIn_j3]
    | true =>
      simp only [cond_true, if_true]
      rw [chk_dec (by simp; omega)]
      simp [spec_PartsIn_j3]
theorem bOr_shl8 {s c : Int} (h1 : 0 ≤ s) (h2 : s < 36028797018963968) (h3 : 0 ≤ c) (h4 : c ≤ 255) : bOr .i64 (bShl .i64 s 8) c = 256 * s + c := by
  obtain ⟨a, rfl⟩ := Int.eq_ofNat_of_zero_le h1
  obtain ⟨b, rfl⟩ := Int.eq_ofNat_of_zero_le h3
  have e : bShl .i64 (a : Int) 8 = ((a * 256 : Nat) : Int) := by
    unfold bShl
    rw [show min (Int.toNat (8 : Int)) (IntKind.bits .i64) = 8 by rfl]
    rw [wrap_i64 (by omega) (by omega)]; omega
  rw [e, bOr_nat (by omega) (by omega)]
  have h5 := Nat.shiftLeft_add_eq_or_of_lt (b := b) (i := 8) (by omega) a
  rw [Nat.shiftLeft_eq, show (2 : Nat) ^ 8 = 256 from rfl] at h5
  rw [← h5]; omega
theorem impl_SumOf_w (u : Nat) : ∀ (p b : List Int) (i : Nat) (s : Int) (n : Nat), M.isBytes b → 0 ≤ s → s < 256 ^ n * 2 → n + b.length ≤ 6 →
    wlist (impl_SumOf_l2_f u p) (impl_SumOf_l2_b u p) b i s = impl_SumOf_j1 u p (M.valS b s) := by
  intro p b
  induction b with
  | nil => intros; rfl
  | cons c b ih =>
    intro i s n hb h1 h2 h3
    have hc := hb c (by simp)
    simp only [List.length_cons] at h3
    have hp : (256 : Int) ^ n ≤ 1099511627776 := by
      rcases (show n = 0 ∨ n = 1 ∨ n = 2 ∨ n = 3 ∨ n = 4 ∨ n = 5 by omega) with rfl | rfl | rfl | rfl | rfl | rfl <;> decide
    simp only [wlist, impl_SumOf_l2_b]
    rw [wrap_i64 (by omega) (by omega), bOr_shl8 (by omega) (by omega) (by omega) (by omega)]
    exact ih (i + 1) _ (n + 1) (fun z hz => hb z (by simp [hz])) (by omega) (by rw [Int.pow_succ]; omega) (by omega)
theorem impl_SumOf_eq {u : Nat} (hu : 1099511627776 ≤ u) {b : List Int} (hb : M.isBytes b) (hl : b.length ≤ 1073741824) : impl_SumOf u b = some (M.sumOf b) := by
  unfold impl_SumOf M.sumOf
  by_cases h : 6 < b.length
  · have : (b.length : Int) > 6 := by omega
    simp [h, this]
  · have : ¬ ((b.length : Int) > 6) := by omega
    simp only [this, decide_false, cond_false, h, if_false]
    rw [impl_SumOf_l2_w u b 1 u (by omega) (by omega), impl_SumOf_w u b b 0 1 0 hb (by omega) (by decide) (by omega)]
    unfold impl_SumOf_j1
    rw [impl_WeakOf_eq hu hb hl]
    rfl
def M.win (b : List Int) (i n : Nat) : List Int := (b.take (i + n)).drop i
theorem win_eq (b : List Int) (i n : Nat) : M.win b i n = (b.drop i).take n := by
  unfold M.win; rw [List.drop_take]; congr 1; omega
theorem isBytes_win {b : List Int} (h : M.isBytes b) (i n : Nat) : M.isBytes (M.win b i n) := fun x hx => h x (List.mem_of_mem_take (List.mem_of_mem_drop hx))
theorem win_length {b : List Int} {i n : Nat} (h : i + n ≤ b.length) : (M.win b i n).length = n := by
  unfold M.win; rw [List.length_drop, List.length_take]; omega
theorem win_le (b : List Int) (i n : Nat) : (M.win b i n).length ≤ n := by
  unfold M.win; rw [List.length_drop, List.length_take]; omega
theorem sliceOK_nat {a b n : Nat} (h1 : a ≤ b) (h2 : b ≤ n) : chk (sliceOK (a : Int) (b : Int) (n : Int)) = some () := by
  have : sliceOK (a : Int) (b : Int) (n : Int) = true := by simp [sliceOK]; omega
  rw [this]; rfl
theorem bAdd_nat {a b : Nat} (h : a + b ≤ 9223372036854775807) : bAdd .i64 (a : Int) (b : Int) = ((a + b : Nat) : Int) := by
  rw [bAdd_i64 (by omega) (by omega)]; omega
theorem impl_Slice_eq (u : Nat) {b : List Int} {i n : Nat} (h : i + n ≤ b.length) (hl : b.length ≤ 1073741824) : impl_Slice u b i n = some (M.win b i n, true) := by
  unfold impl_Slice impl_Slice_j1
  have h1 : M.within (i : Int) 0 (b.length : Int) = true := by simp [M.within]; omega
  have h2 : M.within (n : Int) 0 ((b.length : Int) - (i : Int)) = true := by simp [M.within]; omega
  simp only [impl_within_eq, h1, Option.bind_some, bSub_i64 (a := (b.length : Int)) (b := (i : Int)) (by omega) (by omega), h2, Bool.not_true, cond_false]
  rw [bAdd_nat (by omega), sliceOK_nat (by omega) h]
  simp only [Option.bind_some, Int.toNat_natCast]
  rw [impl_cloned_eq u (by simp; omega)]
  rfl
def M.blockAt (b : List Int) (size i : Int) : List Int × Bool :=
  let s := M.spanOf size b.length i
  if s.2 = 0 then ([], false) else (M.win b s.1.toNat s.2.toNat, true)
theorem spanOf_range {size n i : Int} (hn : 0 ≤ n) : 0 ≤ (M.spanOf size n i).1 ∧ 0 ≤ (M.spanOf size n i).2 ∧ (M.spanOf size n i).2 ≤ 6 ∧ (M.spanOf size n i).1 + (M.spanOf size n i).2 ≤ n := by
  unfold M.spanOf
  split
  · rename_i h
    have ⟨h1, h2, h3⟩ := blocks_ok h
    have h4 := sizeOk_t h1
    have h5 := (within_t h).2
    unfold M.blocks at h5
    rw [if_pos h1] at h5
    have h6 := mul_range h4.1 h4.2.1 h2 h3
    have h7 : i * size ≤ n := by
      have h8 : i + 1 ≤ (n + size - 1) / size := by omega
      have h9 : (i + 1) * size ≤ n + size - 1 := (Int.le_ediv_iff_mul_le (by omega)).1 h8
      rw [Int.add_mul] at h9
      omega
    dsimp only
    omega
  · dsimp only; omega
theorem blockAt_bytes {b : List Int} (hb : M.isBytes b) (size i : Int) : M.isBytes (M.blockAt b size i).1 ∧ (M.blockAt b size i).1.length ≤ 6 := by
  have h := spanOf_range (size := size) (n := b.length) (i := i) (by omega)
  unfold M.blockAt
  dsimp only
  split
  · exact ⟨by simp [M.isBytes], by simp⟩
  · refine ⟨isBytes_win hb _ _, ?_⟩
    have := win_le b (M.spanOf size b.length i).1.toNat (M.spanOf size b.length i).2.toNat
    dsimp only
    omega
theorem impl_BlockAt_eq (u : Nat) {b : List Int} (hl : b.length ≤ 1073741824) (size i : Int) : impl_BlockAt u b size i = some (M.blockAt b size i) := by
  have h := spanOf_range (size := size) (n := b.length) (i := i) (by omega)
  unfold impl_BlockAt M.blockAt
  simp only [impl_SpanOf_eq, Option.bind_some]
  generalize M.spanOf size b.length i = s at h
  obtain ⟨a, n⟩ := s
  dsimp only at h ⊢
  by_cases h0 : n = 0
  · simp [h0]
  · have : (n == 0) = false := by simpa using h0
    obtain ⟨x, rfl⟩ := Int.eq_ofNat_of_zero_le h.1
    obtain ⟨y, rfl⟩ := Int.eq_ofNat_of_zero_le h.2.1
    simp only [this, cond_false, h0, if_false]
    rw [impl_Slice_eq u (by omega) hl]
    rfl
theorem spec_BlockAt_eq (u : Nat) {b : List Int} (hl : b.length ≤ 1073741824) (size i : Int) : spec_BlockAt u b size i = some (M.blockAt b size i) := by
  have h := spanOf_range (size := size) (n := b.length) (i := i) (by omega)
  unfold spec_BlockAt M.blockAt
  simp only [spec_SpanOf_eq, Option.bind_some]
  generalize M.spanOf size b.length i = s at h
  obtain ⟨a, n⟩ := s
  dsimp only at h ⊢
  by_cases h0 : n = 0
  · simp [h0]
  · have : (n == 0) = false := by simpa using h0
    obtain ⟨x, rfl⟩ := Int.eq_ofNat_of_zero_le h.1
    obtain ⟨y, rfl⟩ := Int.eq_ofNat_of_zero_le h.2.1
    simp only [this, cond_false, h0, if_false]
    rw [bAdd_nat (by omega), sliceOK_nat (by omega) (by omega)]
    simp only [Option.bind_some, Int.toNat_natCast]
    rw [chk_dec (by simp; omega)]
    rfl
def M.sumsOf (b : List Int) (size : Int) : List Sum := (List.range (M.blocks size b.length).toNat).map fun (i : Nat) => M.sumOf (M.blockAt b size i).1
theorem walk_append {α ρ : Type} {fin : List α → Option ρ} {body : Nat → List α → (List α → Option ρ) → Option ρ} (g : Nat → α) (n : Nat) (hb : ∀ i s k, i < n → s.length = i → body i s k = k (s ++ [g i])) :
    walk fin body n 0 [] = fin ((List.range n).map g) := by
  have : ∀ (m i : Nat) (s : List α), i + m = n → s.length = i → walk fin body m i s = fin (s ++ (List.range' i m).map g) := by
    intro m
    induction m with
    | zero => intro i s h1 h2; simp [walk]
    | succ m ih =>
      intro i s h1 h2
      simp only [walk]
      rw [hb i s _ (by omega) h2, ih (i + 1) _ (by omega) (by simp [h2]), List.range'_succ]
      simp
  rw [this n 0 [] (by omega) rfl, ← List.range_eq_range']
  simp
theorem impl_SumsOf_eq {u : Nat} (hu : 1099511627776 ≤ u) {b : List Int} (hb : M.isBytes b) (hl : b.length ≤ 1073741824) (size : Int) : impl_SumsOf u b size = some (M.sumsOf b size) := by
  unfold impl_SumsOf
  have hr := blocks_range size b.length
  rw [impl_Blocks_eq]
  simp only [Option.bind_some]
  rw [impl_SumsOf_l2_w u b size _ [] u (by omega) (by omega), walk_append (fun i => M.sumOf (M.blockAt b size i).1)]
  · rfl
  · intro i s k hi hs
    unfold impl_SumsOf_l2_b
    have h := blockAt_bytes hb size (i : Int)
    rw [impl_BlockAt_eq u hl]
    simp only [Option.bind_some]
    rw [impl_SumOf_eq hu h.1 (by omega)]
    simp only [Option.bind_some]
    rw [chk_dec (by simp; omega)]
    rfl
theorem spec_SumsOf_eq {u : Nat} (hu : 1099511627776 ≤ u) {b : List Int} (hb : M.isBytes b) (hl : b.length ≤ 1073741824) (size : Int) : spec_SumsOf u b size = some (M.sumsOf b size) := by
  unfold spec_SumsOf
  have hr := blocks_range size b.length
  rw [walk_0 (n := M.blocks size b.length) (fin := spec_SumsOf_j1 u) (body := fun i (s : List Sum) k => (spec_BlockAt u b size (i : Int)).bind fun r8 => (spec_SumOf u r8.1).bind fun r9 => (chk (decide ((s.length + ([r9]).length) * 16 ≤ 140737488355328))).bind fun _ => k (s ++ [r9]))
    (fun k (s : List Sum) i => spec_SumsOf_l2 u k b size s i) (by omega) (fun k s i => by rw [spec_SumsOf_l2, spec_Blocks_eq]; rfl) [] (by omega), walk_append (fun i => M.sumOf (M.blockAt b size i).1)]
  · rfl
  · intro i s k hi hs
    have h := blockAt_bytes hb size (i : Int)
    rw [spec_BlockAt_eq u hl]
    simp only [Option.bind_some]
    rw [spec_SumOf_eq hu h.1 (by omega)]
    simp only [Option.bind_some]
    rw [chk_dec (by simp; omega)]
    rfl
def M.manOf (gen : Int) (b : List Int) (size : Int) : Manifest := if M.within gen 1 1000000 && M.sizeOk size b.length then ⟨gen, size, b.length, M.sumsOf b size⟩ else ⟨0, 0, 0, []⟩
theorem impl_ManOf_eq {u : Nat} (hu : 1099511627776 ≤ u) {b : List Int} (hb : M.isBytes b) (hl : b.length ≤ 1073741824) (gen size : Int) : impl_ManOf u gen b size = some (M.manOf gen b size) := by
  unfold impl_ManOf impl_ManOf_j1 M.manOf
  simp only [impl_within_eq, impl_SizeOk_eq, Option.bind_some, impl_SumsOf_eq hu hb hl]
  cases M.within gen 1 1000000 <;> cases M.sizeOk size b.length <;> simp
theorem spec_ManOf_eq {u : Nat} (hu : 1099511627776 ≤ u) {b : List Int} (hb : M.isBytes b) (hl : b.length ≤ 1073741824) (gen size : Int) : spec_ManOf u gen b size = some (M.manOf gen b size) := by
  unfold spec_ManOf spec_ManOf_j1 M.manOf
  simp only [spec_l1In_eq, spec_SizeOk_eq, Option.bind_some, spec_SumsOf_eq hu hb hl]
  cases M.within gen 1 1000000 <;> cases M.sizeOk size b.length <;> simp
def M.sX : List Int → Int
  | [] => 0
  | c :: b => c + M.sX b
def M.sY : List Int → Int
  | [] => 0
  | c :: b => ((b.length : Int) + 1) * c + M.sY b
theorem weakS_sum : ∀ (b : List Int) (x y : Int), M.weakS b x y = match b with | [] => (x, y) | _ => ((x + M.sX b) % 251, (y + b.length * x + M.sY b) % 251) := by
  intro b
  induction b with
  | nil => intro x y; rfl
  | cons c b ih =>
    intro x y
    simp only [M.weakS]
    rw [ih]
    cases b with
    | nil => simp [M.sX, M.sY, Int.add_assoc]
    | cons d b =>
      simp only [M.sX, M.sY, List.length_cons]
      refine Prod.ext ?_ ?_
      · dsimp only; omega
      · dsimp only
        have e : ((b.length : Int) + 1) * ((x + c) % 251) % 251 = ((b.length : Int) + 1) * (x + c) % 251 := by rw [Int.mul_emod, Int.emod_emod_of_dvd _ (Int.dvd_refl 251), ← Int.mul_emod]
        have e1 : ((b.length : Int) + 1) * (x + c) = ((b.length : Int) + 1) * x + ((b.length : Int) + 1) * c := Int.mul_add _ _ _
        have e2 : ((b.length : Int) + 1 + 1) * x = ((b.length : Int) + 1) * x + x := by rw [Int.add_mul]; omega
        have e3 : ((b.length : Int) + 1 + 1) * c = ((b.length : Int) + 1) * c + c := by rw [Int.add_mul]; omega
        push_cast
        rw [e2, e3]
        rw [e1] at e
        generalize ((b.length : Int) + 1) * ((x + c) % 251) = p at *
        generalize ((b.length : Int) + 1) * x = q at *
        generalize ((b.length : Int) + 1) * c = r at *
        generalize ((b.length : Int) + 1) * d = t at *
        omega
theorem weakOf_sum {b : List Int} : M.weakOf b = M.sX b % 251 + 251 * (M.sY b % 251) := by
  unfold M.weakOf
  rw [weakS_sum]
  cases b with
  | nil => simp [M.sX, M.sY]
  | cons c b => dsimp only; simp
theorem sX_app (b : List Int) (d : Int) : M.sX (b ++ [d]) = M.sX b + d := by
  induction b with
  | nil => simp [M.sX]
  | cons c b ih => simp only [List.cons_append, M.sX, ih]; omega
theorem sY_app (b : List Int) (d : Int) : M.sY (b ++ [d]) = M.sY b + M.sX b + d := by
  induction b with
  | nil => simp [M.sX, M.sY]
  | cons c b ih =>
    simp only [List.cons_append, M.sX, M.sY, ih, List.length_append, List.length_singleton]
    push_cast
    rw [Int.add_mul ((b.length : Int) + 1) 1 c]
    omega
theorem spec_Wrap_eq (u : Nat) (n m : Int) : spec_Wrap u n m = some (if M.within m 1 1000000000000 then n % m else 0) := by
  unfold spec_Wrap
  simp only [spec_l1In_eq, Option.bind_some]
  cases h : M.within m 1 1000000000000 with
  | false => simp
  | true =>
    have h3 := within_t h
    have hb : (m == 0) = false := by simp; omega
    have h4 := tmod_range (n := n) (m := m) (by omega)
    simp only [hb, Bool.not_true, cond_false, Bool.not_false, chk_true, Option.bind_some]
    have e1 : bRem .i64 n m = n.tmod m := rfl
    rw [e1, bAdd_i64 (by omega) (by omega)]
    show some ((n.tmod m + m).tmod m) = _
    rw [tmod_wrap (by omega)]; simp
theorem spec_l3Ok_eq (u : Nat) (w : Int) : spec_l3Ok u w = some (M.within w 0 63000) := by simp [spec_l3Ok, spec_l1In_eq]
theorem spec_WeakHalves_eq (u : Nat) {w : Int} (h : M.within w 0 63000 = true) : spec_WeakHalves u w = some (w % 251, w / 251) := by
  unfold spec_WeakHalves
  have := within_t h
  rw [spec_l3Ok_eq, h]
  simp (disch := omega) [bRem_pos, bQuo_pos]
theorem spec_Roll_eq (u : Nat) {c d : Int} {m : List Int} (hc : 0 ≤ c ∧ c ≤ 255) (hd : 0 ≤ d ∧ d ≤ 255) (hm : m.length ≤ 5) : spec_Roll u (M.weakOf (c :: m)) ((m.length : Int) + 1) c d = some (M.weakOf (m ++ [d])) := by
  unfold spec_Roll spec_Roll_j1
  have h0 := weakOf_range (c :: m)
  have h1 : M.within (M.weakOf (c :: m)) 0 63000 = true := by simp [M.within]; omega
  have h2 : M.within ((m.length : Int) + 1) 1 1000000000000 = true := by simp [M.within]; omega
  have h3 : M.within c 0 255 = true := by simp [M.within]; omega
  have h4 : M.within d 0 255 = true := by simp [M.within]; omega
  have h5 : M.within 251 1 1000000000000 = true := by decide
  have h6 : ((m.length : Int) + 1) * c ≤ 6 * 255 := Int.mul_le_mul (by omega) (by omega) (by omega) (by omega)
  have h7 : 0 ≤ ((m.length : Int) + 1) * c := Int.mul_nonneg (by omega) (by omega)
  simp only [spec_l3Ok_eq, spec_l1In_eq, h1, h2, h3, h4, Option.bind_some, Bool.not_true, cond_false, spec_WeakHalves_eq u h1, spec_Wrap_eq, h5, if_true]
  rw [bRem_pos (by omega), Int.emod_eq_of_lt (a := (m.length : Int) + 1) (by omega) (by omega)]
  have e := weakOf_sum (b := c :: m)
  have e2 := weakOf_sum (b := m ++ [d])
  rw [e2, sX_app, sY_app]
  simp only [M.sX, M.sY] at e
  rw [bMul_i64 (a := (m.length : Int) + 1) (b := c) (by omega) (by omega)]
  generalize M.weakOf (c :: m) = w at *
  generalize ((m.length : Int) + 1) * c = q at *
  generalize M.sX m = sx at *
  generalize M.sY m = sy at *
  rw [bSub_i64 (a := w / 251) (by omega) (by omega), bSub_i64 (a := w % 251) (by omega) (by omega), bAdd_i64 (a := w % 251 - c) (by omega) (by omega)]
  rw [bAdd_i64 (a := (w / 251 - q) % 251) (by omega) (by omega)]
  rw [bMul_i64 (by omega) (by omega), bAdd_i64 (by omega) (by omega)]
  congr 1
  omega
theorem win_cons {b : List Int} {i n : Nat} {c : Int} (hc : b[i]? = some c) : M.win b i (n + 1) = c :: M.win b (i + 1) n := by
  rw [win_eq, win_eq]
  obtain ⟨h, rfl⟩ := List.getElem?_eq_some_iff.1 hc
  rw [List.drop_eq_getElem_cons h, List.take_succ_cons]
theorem win_snoc {b : List Int} {i n : Nat} {d : Int} (hd : b[i + n]? = some d) : M.win b i (n + 1) = M.win b i n ++ [d] := by
  rw [win_eq, win_eq, List.take_add_one]
  congr 1
  rw [List.getElem?_drop, hd]; rfl
def M.windows (b : List Int) (n : Nat) : List Int := if n ≤ b.length then (List.range (b.length + 1 - n)).map fun i => M.weakOf (M.win b i n) else []
theorem spec_Windows_l3_eq (u : Nat) {b : List Int} (hb : M.isBytes b) (hl : b.length ≤ 1073741824) {n : Nat} (h1 : 1 ≤ n) (h2 : n ≤ 6) : ∀ (m k j : Nat), n + j + m = b.length → m < k →
    spec_Windows_l3 u k b n ((List.range (j + 1)).map fun i => M.weakOf (M.win b i n)) (M.weakOf (M.win b j n)) ((n + j : Nat) : Int) = some ((List.range (j + 1 + m)).map fun i => M.weakOf (M.win b i n)) := by
  intro m
  induction m with
  | zero =>
    intro k j h3 h4
    obtain ⟨k, rfl⟩ : ∃ i, k = i + 1 := ⟨k - 1, by omega⟩
    unfold spec_Windows_l3
    have : ¬ (((n + j : Nat) : Int) < (b.length : Int)) := by omega
    simp only [this, decide_false, cond_false, spec_Windows_j2, Nat.add_zero]
  | succ m ih =>
    intro k j h3 h4
    obtain ⟨k, rfl⟩ : ∃ i, k = i + 1 := ⟨k - 1, by omega⟩
    unfold spec_Windows_l3
    have h5 : ((n + j : Nat) : Int) < (b.length : Int) := by omega
    have e : bSub .i64 ((n + j : Nat) : Int) (n : Int) = (j : Int) := by rw [bSub_i64 (by omega) (by omega)]; omega
    simp only [h5, decide_true, cond_true, e, idx_nat]
    have hc := List.getElem?_eq_getElem (l := b) (i := j) (by omega)
    have hd := List.getElem?_eq_getElem (l := b) (i := n + j) (by omega)
    rw [hc, hd]
    simp only [Option.bind_some]
    have hcb := hb _ (List.getElem_mem (l := b) (n := j) (by omega))
    have hdb := hb _ (List.getElem_mem (l := b) (n := n + j) (by omega))
    rw [wrap_i64 (n := b[j]) (by omega) (by omega), wrap_i64 (n := b[n + j]) (by omega) (by omega)]
    obtain ⟨n, rfl⟩ : ∃ i, n = i + 1 := ⟨n - 1, by omega⟩
    have e1 := win_cons (n := n) hc
    have e2 : M.win b (j + 1) (n + 1) = M.win b (j + 1) n ++ [b[n + 1 + j]] := win_snoc (by rw [show j + 1 + n = n + 1 + j by omega]; exact hd)
    have hw : (M.win b (j + 1) n).length = n := win_length (by omega)
    have hroll := spec_Roll_eq u (c := b[j]) (d := b[n + 1 + j]) (m := M.win b (j + 1) n) hcb hdb (by omega)
    rw [hw, ← e1, ← e2] at hroll
    rw [show ((n + 1 : Nat) : Int) = (n : Int) + 1 by omega, hroll]
    simp only [Option.bind_some]
    rw [chk_dec (by simp; omega)]
    simp only [Option.bind_some]
    rw [show (List.map (fun i => M.weakOf (M.win b i (n + 1))) (List.range (j + 1)) ++ [M.weakOf (M.win b (j + 1) (n + 1))]) = (List.range (j + 1 + 1)).map fun i => M.weakOf (M.win b i (n + 1)) by rw [List.range_succ (n := j + 1), List.map_append]; rfl]
    rw [bAdd_succ (by omega)]
    have := ih k (j + 1) (by omega) (by omega)
    rw [show ((n + 1 : Nat) : Int) = (n : Int) + 1 by omega] at this
    rw [show n + 1 + j + 1 = n + 1 + (j + 1) by omega, this, show j + 1 + 1 + m = j + 1 + (m + 1) by omega]
theorem spec_Windows_eq {u : Nat} (hu : 1099511627776 ≤ u) {b : List Int} (hb : M.isBytes b) (hl : b.length ≤ 1073741824) {n : Nat} (h1 : 1 ≤ n) (h2 : n ≤ 6) : spec_Windows u b n = some (M.windows b n) := by
  unfold spec_Windows spec_Windows_j1 M.windows
  have h3 : ¬ ((n : Int) < 1) := by omega
  simp only [h3, decide_false, cond_false]
  by_cases h4 : n ≤ b.length
  · have h5 : ¬ ((n : Int) > (b.length : Int)) := by omega
    simp only [h5, decide_false, cond_false, h4, if_true]
    rw [show (0 : Int) = ((0 : Nat) : Int) by rfl, sliceOK_nat (by omega) h4]
    simp only [Option.bind_some, Int.toNat_natCast]
    have e : List.drop 0 (List.take n b) = M.win b 0 n := by simp [M.win]
    rw [e, spec_WeakOf_eq hu (isBytes_win hb _ _) (by have := win_le b 0 n; omega)]
    simp only [Option.bind_some]
    rw [chk_dec (by simp)]
    have := spec_Windows_l3_eq u hb hl h1 h2 (b.length - n) u 0 (by omega) (by omega)
    simp only [Nat.add_zero, Nat.zero_add] at this
    rw [show (List.range 1).map (fun i => M.weakOf (M.win b i n)) = [M.weakOf (M.win b 0 n)] by rfl] at this
    simp only [Option.bind_some, List.nil_append]
    rw [this, show 1 + (b.length - n) = b.length + 1 - n by omega]
  · have h5 : ((n : Int) > (b.length : Int)) := by omega
    simp [h5, h4]
def M.findFrom (b : List Int) (s : Sum) (n : Nat) : Nat → Nat → Int
  | 0, _ => -1
  | c + 1, i => if M.sumOf (M.win b i n) = s then i else M.findFrom b s n c (i + 1)
def M.findSum (b : List Int) (s : Sum) (n : Int) : Int := if M.within n 1 6 then M.findFrom b s n.toNat (b.length + 1 - n.toNat) 0 else -1
theorem sum_beq (x y : Sum) : (([x.fW, x.fS] : List Int) == [y.fW, y.fS]) = decide (x = y) := by
  obtain ⟨a, b⟩ := x
  obtain ⟨c, d⟩ := y
  rw [Bool.eq_iff_iff]; simp
theorem impl_FindSum_l2_eq {u : Nat} (hu : 1099511627776 ≤ u) {b : List Int} (hb : M.isBytes b) (hl : b.length ≤ 1073741824) (s : Sum) {n : Nat} (h1 : 1 ≤ n) (h2 : n ≤ 6) : ∀ (c k i : Nat), i + c = b.length + 1 - n ∨ (c = 0 ∧ b.length + 1 - n ≤ i) → i ≤ 1073741824 → c < k →
    impl_FindSum_l2 u k b n i s = some (M.findFrom b s n c i) := by
  intro c
  induction c with
  | zero =>
    intro k i h3 hi h4
    obtain ⟨k, rfl⟩ : ∃ i, k = i + 1 := ⟨k - 1, by omega⟩
    unfold impl_FindSum_l2
    rw [bAdd_nat (by omega)]
    have : ¬ (((i + n : Nat) : Int) ≤ (b.length : Int)) := by omega
    simp only [this, decide_false, cond_false, impl_FindSum_j1, M.findFrom]
  | succ c ih =>
    intro k i h3 hi h4
    obtain ⟨k, rfl⟩ : ∃ i, k = i + 1 := ⟨k - 1, by omega⟩
    unfold impl_FindSum_l2
    rw [bAdd_nat (by omega)]
    have h5 : (((i + n : Nat) : Int) ≤ (b.length : Int)) := by omega
    simp only [h5, decide_true, cond_true, Int.toNat_natCast]
    rw [sliceOK_nat (by omega) (by omega)]
    simp only [Option.bind_some]
    change ((impl_SumOf u (M.win b i n)).bind _) = _
    rw [impl_SumOf_eq hu (isBytes_win hb _ _) (by have := win_le b i n; omega)]
    simp only [Option.bind_some, sum_beq, M.findFrom]
    by_cases h6 : M.sumOf (M.win b i n) = s
    · simp [h6]
    · simp only [h6, decide_false, cond_false, if_false]
      rw [bAdd_succ (by omega)]
      exact ih k (i + 1) (by omega) (by omega) (by omega)
theorem impl_FindSum_eq {u : Nat} (hu : 1099511627776 ≤ u) {b : List Int} (hb : M.isBytes b) (hl : b.length ≤ 1073741823) (s : Sum) (n : Int) : impl_FindSum u b s n = some (M.findSum b s n) := by
  unfold impl_FindSum M.findSum
  rw [impl_within_eq]
  simp only [Option.bind_some]
  cases h : M.within n 1 6 with
  | false => simp
  | true =>
    have h := within_t h
    obtain ⟨n, rfl⟩ := Int.eq_ofNat_of_zero_le (show 0 ≤ n by omega)
    simp only [Bool.not_true, cond_false, if_true, Int.toNat_natCast]
    exact impl_FindSum_l2_eq hu hb (by omega) s (by omega) (by omega) (b.length + 1 - n) u 0 (by omega) (by omega) (by omega)
theorem sumOf_weak {b : List Int} (h : b.length ≤ 6) : (M.sumOf b).fW = M.weakOf b := by
  unfold M.sumOf; rw [if_neg (by omega)]
theorem spec_FindSum_l2_eq {u : Nat} (hu : 1099511627776 ≤ u) {b : List Int} (hb : M.isBytes b) (hl : b.length ≤ 1073741823) (s : Sum) {n : Nat} (h1 : 1 ≤ n) (h2 : n ≤ 6) : ∀ (c k i : Nat), i + c = b.length + 1 - n → c < k →
    spec_FindSum_l2 u k b n (M.windows b n) i s = some (M.findFrom b s n c i) := by
  have hlen : (M.windows b n).length = b.length + 1 - n := by
    unfold M.windows
    split
    · simp
    · simp; omega
  intro c
  induction c with
  | zero =>
    intro k i h3 h4
    obtain ⟨k, rfl⟩ : ∃ i, k = i + 1 := ⟨k - 1, by omega⟩
    unfold spec_FindSum_l2
    have : ¬ ((i : Int) < ((M.windows b n).length : Int)) := by omega
    simp only [this, decide_false, cond_false, spec_FindSum_j1, M.findFrom]
  | succ c ih =>
    intro k i h3 h4
    obtain ⟨k, rfl⟩ : ∃ i, k = i + 1 := ⟨k - 1, by omega⟩
    unfold spec_FindSum_l2
    have h5 : ((i : Int) < ((M.windows b n).length : Int)) := by omega
    have hx : (M.windows b n)[i]? = some (M.weakOf (M.win b i n)) := by
      unfold M.windows
      rw [if_pos (by omega), List.getElem?_map, List.getElem?_range (by omega)]; rfl
    simp only [h5, decide_true, cond_true, idx_nat, hx, Option.bind_some]
    rw [bAdd_nat (by omega), sliceOK_nat (by omega) (by omega)]
    simp only [Option.bind_some, Int.toNat_natCast]
    change (bif _ then ((spec_SumOf u (M.win b i n)).bind _) else _) = _
    rw [spec_SumOf_eq hu (isBytes_win hb _ _) (by have := win_le b i n; omega)]
    simp only [Option.bind_some, sum_beq, M.findFrom, spec_FindSum_j3, cond_false, bAdd_succ (show i < 9223372036854775807 by omega), ih k (i + 1) (by omega) (by omega)]
    by_cases h6 : M.sumOf (M.win b i n) = s
    · have h7 : M.weakOf (M.win b i n) = s.fW := by rw [← h6, sumOf_weak (by have := win_le b i n; omega)]
      simp [h6, h7]
    · cases M.weakOf (M.win b i n) == s.fW <;> simp [h6]
theorem spec_FindSum_eq {u : Nat} (hu : 1099511627776 ≤ u) {b : List Int} (hb : M.isBytes b) (hl : b.length ≤ 1073741823) (s : Sum) (n : Int) : spec_FindSum u b s n = some (M.findSum b s n) := by
  unfold spec_FindSum M.findSum
  rw [spec_l1In_eq]
  simp only [Option.bind_some]
  cases h : M.within n 1 6 with
  | false => simp
  | true =>
    have h := within_t h
    obtain ⟨n, rfl⟩ := Int.eq_ofNat_of_zero_le (show 0 ≤ n by omega)
    simp only [Bool.not_true, cond_false, if_true, Int.toNat_natCast]
    rw [spec_Windows_eq hu hb (by omega) (by omega) (by omega)]
    exact spec_FindSum_l2_eq hu hb (by omega) s (by omega) (by omega) (b.length + 1 - n) u 0 (by omega) (by omega)
def M.placeOf (b : List Int) (m : Manifest) (i : Nat) : Int := match m.fSums[i]? with
  | some s => M.findSum b s (M.spanOf m.fSize m.fLen i).2
  | none => -1
theorem impl_PlaceOf_eq {u : Nat} (hu : 1099511627776 ≤ u) {b : List Int} (hb : M.isBytes b) (hl : b.length ≤ 1073741823) {m : Manifest} (hm : m.fSums.length ≤ 1073741824) (i : Nat) : impl_PlaceOf u b m i = some (M.placeOf b m i) := by
  unfold impl_PlaceOf M.placeOf
  rw [impl_SpanOf_eq]
  simp only [Option.bind_some]
  rw [bSub_i64 (by omega) (by omega), impl_within_eq]
  by_cases h : i < m.fSums.length
  · have h1 : M.within (i : Int) 0 ((m.fSums.length : Int) - 1) = true := by simp [M.within]; omega
    simp only [h1, Option.bind_some, Bool.not_true, cond_false, idx_nat, List.getElem?_eq_getElem h, impl_FindSum_eq hu hb hl]
  · have h1 : M.within (i : Int) 0 ((m.fSums.length : Int) - 1) = false := by simp [M.within]; omega
    simp only [h1, Option.bind_some, Bool.not_false, cond_true, List.getElem?_eq_none (show m.fSums.length ≤ i by omega)]
theorem spec_PlaceOf_eq {u : Nat} (hu : 1099511627776 ≤ u) {b : List Int} (hb : M.isBytes b) (hl : b.length ≤ 1073741823) {m : Manifest} (hm : m.fSums.length ≤ 1073741824) (i : Nat) : spec_PlaceOf u b m i = some (M.placeOf b m i) := by
  unfold spec_PlaceOf spec_PlaceOf_j1 M.placeOf
  rw [spec_SpanOf_eq]
  simp only [Option.bind_some, spec_FindSum_eq hu hb hl, idx_nat]
  by_cases h : i < m.fSums.length
  · have h1 : ¬ ((i : Int) ≥ (m.fSums.length : Int)) := by omega
    simp only [List.getElem?_eq_getElem h, Option.bind_some, h1, decide_false, cond_false, cond_true]
    by_cases h2 : (M.spanOf m.fSize m.fLen i).2 = 0
    · have : M.findSum b m.fSums[i] 0 = -1 := by simp [M.findSum, M.within]
      simp [h2, this]
    · have : ((M.spanOf m.fSize m.fLen i).2 == 0) = false := by simpa using h2
      simp [this]
  · have h1 : ((i : Int) ≥ (m.fSums.length : Int)) := by omega
    simp only [List.getElem?_eq_none (show m.fSums.length ≤ i by omega), h1, decide_true, cond_true]
    cases ((M.spanOf m.fSize m.fLen i).2 == 0) <;> simp
def M.has (b : List Int) (m : Manifest) (i : Nat) : Bool := decide (0 ≤ M.placeOf b m i)
def M.placed (b : List Int) (m : Manifest) (x : Bool) : Nat := M.setBy (min m.fSums.length 40) (fun i => M.has b m i == x)
theorem walk_set {ρ : Type} {fin : Int → Option ρ} {body : Nat → Int → (Int → Option ρ) → Option ρ} (f : Nat → Bool) (n : Nat) (hb : ∀ i k, i < n → body i (M.setBy i f : Nat) k = k (M.setBy (i + 1) f : Nat)) :
    walk fin body n 0 0 = fin (M.setBy n f : Nat) := by
  have : ∀ (m i : Nat), i + m = n → walk fin body m i (M.setBy i f : Nat) = fin (M.setBy n f : Nat) := by
    intro m
    induction m with
    | zero => intro i h; simp only [walk]; rw [show i = n by omega]
    | succ m ih =>
      intro i h
      simp only [walk]
      rw [hb i _ (by omega)]
      exact ih (i + 1) (by omega)
  exact this n 0 (by omega)
theorem setBy_step {f : Nat → Bool} {i : Nat} (h : i ≤ 39) : bOr .i64 (M.setBy i f : Nat) (bShl .i64 1 (i : Int)) = ((M.setBy i f ||| 2 ^ i : Nat) : Int) := by
  rw [bShl1_nat (by omega)]
  have h1 := setBy_lt f i
  have h2 : (2 : Nat) ^ i ≤ 2 ^ 39 := Nat.pow_le_pow_right (by omega) h
  generalize (2 : Nat) ^ i = p at *
  exact bOr_nat (by omega) (by omega)
theorem impl_placed_eq {u : Nat} (hu : 1099511627776 ≤ u) {b : List Int} (hb : M.isBytes b) (hl : b.length ≤ 1073741823) {m : Manifest} (hm : m.fSums.length ≤ 1073741824) (x : Bool) : impl_placed u b m x = some ((M.placed b m x : Nat) : Int) := by
  unfold impl_placed
  have e : (if ((m.fSums.length : Int)) < 40 then ((m.fSums.length : Int)) else 40) = ((min m.fSums.length 40 : Nat) : Int) := by split <;> omega
  rw [impl_placed_l2_w u b x m 0 u (by rw [e]; omega) (by rw [e]; omega), e, Int.toNat_natCast, walk_set (fun i => M.has b m i == x)]
  · rfl
  · intro i k hi
    unfold impl_placed_l2_b
    rw [impl_PlaceOf_eq hu hb hl hm]
    simp only [Option.bind_some, M.setBy]
    have e2 : decide (M.placeOf b m i ≥ 0) = M.has b m i := rfl
    rw [e2, chk_dec (by omega), setBy_step (by omega)]
    by_cases h : (M.has b m i == x) = true
    · simp only [h, cond_true, Option.bind_some, impl_placed_j3, if_true]
    · simp only [h, Bool.not_eq_true] at h ⊢
      simp only [h, cond_false, impl_placed_j3, Bool.false_eq_true, if_false, Nat.or_zero]
theorem impl_Lacking_eq {u : Nat} (hu : 1099511627776 ≤ u) {b : List Int} (hb : M.isBytes b) (hl : b.length ≤ 1073741823) {m : Manifest} (hm : m.fSums.length ≤ 1073741824) : impl_Lacking u b m = some ((M.placed b m false : Nat) : Int) := by
  unfold impl_Lacking
  rw [impl_placed_eq hu hb hl hm]; rfl
theorem placed_range (b : List Int) (m : Manifest) (x : Bool) : M.placed b m x < 1099511627776 := by
  have h1 := setBy_lt (fun i => M.has b m i == x) (min m.fSums.length 40)
  have h2 : (2 : Nat) ^ (min m.fSums.length 40) ≤ 2 ^ 40 := Nat.pow_le_pow_right (by omega) (by omega)
  exact Nat.lt_of_lt_of_le h1 h2
theorem setOk_nat {s : Nat} (h : s < 1099511627776) : M.setOk (s : Int) = true := by simp [M.setOk, M.within]; omega
theorem spec_WithPart_eq (u : Nat) {f : Nat → Bool} {i : Nat} (h : i ≤ 39) : spec_WithPart u (M.setBy i f : Nat) i = some ((M.setBy i f ||| 2 ^ i : Nat) : Int) := by
  unfold spec_WithPart spec_WithPart_j1
  have h1 := setBy_lt f i
  have h2 : (2 : Nat) ^ i ≤ 2 ^ 39 := Nat.pow_le_pow_right (by omega) h
  rw [spec_SetOk_eq, setOk_nat (Nat.lt_of_lt_of_le h1 (by omega)), spec_l1In_eq]
  have h3 : M.within (i : Int) 0 39 = true := by simp [M.within]; omega
  simp only [Option.bind_some, Bool.not_true, cond_false, h3]
  rw [chk_dec (by omega), setBy_step h]; rfl
theorem spec_Found_l2_eq {u : Nat} (hu : 1099511627776 ≤ u) {b : List Int} (hb : M.isBytes b) (hl : b.length ≤ 1073741823) {m : Manifest} (hm : m.fSums.length ≤ 1073741824) : ∀ (c k i : Nat), i + c = min m.fSums.length 40 → c < k →
    spec_Found_l2 u k b (M.setBy i (fun i => M.has b m i == true) : Nat) i m = some ((M.placed b m true : Nat) : Int) := by
  intro c
  induction c with
  | zero =>
    intro k i h3 h4
    obtain ⟨k, rfl⟩ : ∃ i, k = i + 1 := ⟨k - 1, by omega⟩
    unfold spec_Found_l2 spec_Found_j3 spec_Found_j1 M.placed
    rw [show i = min m.fSums.length 40 by omega]
    by_cases h5 : m.fSums.length < 40
    · have h6 : ¬ (((min m.fSums.length 40 : Nat) : Int) < (m.fSums.length : Int)) := by omega
      simp only [h6, decide_false, cond_false]
    · have h6 : ¬ (((min m.fSums.length 40 : Nat) : Int) < 40) := by omega
      simp only [h6, decide_false, cond_false]
      cases decide (((min m.fSums.length 40 : Nat) : Int) < (m.fSums.length : Int)) <;> rfl
  | succ c ih =>
    intro k i h3 h4
    obtain ⟨k, rfl⟩ : ∃ i, k = i + 1 := ⟨k - 1, by omega⟩
    unfold spec_Found_l2 spec_Found_j3 spec_Found_j4
    have h5 : (i : Int) < (m.fSums.length : Int) := by omega
    have h6 : (i : Int) < 40 := by omega
    simp only [h5, h6, decide_true, cond_true, spec_PlaceOf_eq hu hb hl hm, Option.bind_some]
    have e2 : decide (M.placeOf b m i ≥ 0) = M.has b m i := rfl
    rw [e2, spec_WithPart_eq u (by omega), bAdd_succ (by omega)]
    have := ih k (i + 1) (by omega) (by omega)
    rw [M.setBy] at this
    cases h : M.has b m i with
    | false =>
      rw [h, if_neg (by decide), Nat.or_zero] at this
      simp only [cond_false]; exact this
    | true =>
      rw [h, if_pos (by decide)] at this
      simp only [cond_true, Option.bind_some]; exact this
theorem spec_Found_eq {u : Nat} (hu : 1099511627776 ≤ u) {b : List Int} (hb : M.isBytes b) (hl : b.length ≤ 1073741823) {m : Manifest} (hm : m.fSums.length ≤ 1073741824) : spec_Found u b m = some ((M.placed b m true : Nat) : Int) :=
  spec_Found_l2_eq hu hb hl hm (min m.fSums.length 40) u 0 (by omega) (by omega)
theorem spec_FullSet_eq (u : Nat) {n : Nat} (h : n ≤ 40) : spec_FullSet u n = some ((2 ^ n - 1 : Nat) : Int) := by
  unfold spec_FullSet
  have h1 : M.within (n : Int) 0 40 = true := by simp [M.within]; omega
  rw [spec_l1In_eq, h1]
  simp only [Option.bind_some, Bool.not_true, cond_false]
  have h2 : (2 : Nat) ^ n ≤ 2 ^ 40 := Nat.pow_le_pow_right (by omega) h
  have h3 : 0 < (2 : Nat) ^ n := Nat.pow_pos (by omega)
  rw [chk_dec (by omega), bShl1_nat (by omega)]
  generalize (2 : Nat) ^ n = p at *
  rw [bSub_i64 (by omega) (by omega)]
  simp only [Option.bind_some]
  congr 1
  omega
theorem spec_Lacking_eq {u : Nat} (hu : 1099511627776 ≤ u) {b : List Int} (hb : M.isBytes b) (hl : b.length ≤ 1073741823) {m : Manifest} (hm : m.fSums.length ≤ 1073741824) : spec_Lacking u b m = some ((M.placed b m false : Nat) : Int) := by
  unfold spec_Lacking spec_Without spec_Without_j1
  have hn : (min (m.fSums.length : Int) 40) = ((min m.fSums.length 40 : Nat) : Int) := by omega
  rw [spec_Least_eq, hn]
  simp only [Option.bind_some]
  rw [spec_FullSet_eq u (by omega), spec_Found_eq hu hb hl hm]
  have h2 : (2 : Nat) ^ (min m.fSums.length 40) ≤ 2 ^ 40 := Nat.pow_le_pow_right (by omega) (by omega)
  have h3 : 0 < (2 : Nat) ^ (min m.fSums.length 40) := Nat.pow_pos (by omega)
  have hp := placed_range b m true
  simp only [Option.bind_some, spec_SetOk_eq, setOk_nat hp, setOk_nat (show 2 ^ (min m.fSums.length 40) - 1 < 1099511627776 by omega), Bool.not_true, cond_false]
  have h4 : M.placed b m true < 2 ^ (min m.fSums.length 40) := setBy_lt _ _
  rw [bAndNot_nat (n := min m.fSums.length 40) (by omega) (by omega) h4]
  refine congrArg (fun z : Nat => some (z : Int)) ?_
  unfold M.placed
  apply setBy_congr
  intro i hi
  rw [testBit_setBy, Nat.testBit_two_pow_sub_one]
  simp [hi]
def M.lenOf (m : Manifest) : List Int → Int
  | [] => 0
  | i :: l => (M.spanOf m.fSize m.fLen i).2 + M.lenOf m l
def M.bytesLacking (b : List Int) (m : Manifest) : Int := M.lenOf m (M.partsIn (M.placed b m false : Nat))
theorem spanOf_len (size n i : Int) : -1000 ≤ (M.spanOf size n i).2 ∧ (M.spanOf size n i).2 ≤ 6 := by
  unfold M.spanOf
  split
  · rename_i h
    have ⟨h1, h2, h3⟩ := blocks_ok h
    have h4 := sizeOk_t h1
    have h6 := mul_range h4.1 h4.2.1 h2 h3
    dsimp only; omega
  · dsimp only; omega
theorem partsIn_length (s : Int) : (M.partsIn s).length ≤ 40 := by
  unfold M.partsIn
  split
  · rw [List.length_map]
    have := List.length_filter_le (fun i => s.toNat.testBit i) (List.range 40)
    simpa using this
  · simp
theorem lenOf_range (m : Manifest) : ∀ l : List Int, -1000 * l.length ≤ M.lenOf m l ∧ M.lenOf m l ≤ 6 * l.length := by
  intro l
  induction l with
  | nil => simp [M.lenOf]
  | cons i l ih =>
    have := spanOf_len m.fSize m.fLen i
    simp only [M.lenOf, List.length_cons]
    omega
theorem impl_BytesLacking_w (u : Nat) (r : List Int) (m : Manifest) : ∀ (l : List Int) (i : Nat) (a : Int), l.length ≤ 1000 → -100000000 + 1000 * l.length ≤ a → a ≤ 100000000 - 6 * l.length → wlist (impl_BytesLacking_l2_f u r m) (impl_BytesLacking_l2_b u r m) l i a = some (a + M.lenOf m l) := by
  intro l
  induction l with
  | nil => intro i a _ _ _; simp [wlist, impl_BytesLacking_l2_f, impl_BytesLacking_j1, M.lenOf]
  | cons j l ih =>
    intro i a h0 h1 h2
    have := spanOf_len m.fSize m.fLen j
    simp only [List.length_cons] at h0 h1 h2
    simp only [wlist, impl_BytesLacking_l2_b, impl_SpanOf_eq, Option.bind_some, M.lenOf]
    rw [bAdd_i64 (by omega) (by omega), ih (i + 1) _ (by omega) (by omega) (by omega), Int.add_assoc]
theorem spec_BytesLacking_w (u : Nat) (r : List Int) (m : Manifest) : ∀ (l : List Int) (i : Nat) (a : Int), l.length ≤ 1000 → -100000000 + 1000 * l.length ≤ a → a ≤ 100000000 - 6 * l.length → wlist (spec_BytesLacking_l2_f u r m) (spec_BytesLacking_l2_b u r m) l i a = some (a + M.lenOf m l) := by
  intro l
  induction l with
  | nil => intro i a _ _ _; simp [wlist, spec_BytesLacking_l2_f, spec_BytesLacking_j1, M.lenOf]
  | cons j l ih =>
    intro i a h0 h1 h2
    have := spanOf_len m.fSize m.fLen j
    simp only [List.length_cons] at h0 h1 h2
    simp only [wlist, spec_BytesLacking_l2_b, spec_SpanOf_eq, Option.bind_some, M.lenOf]
    rw [bAdd_i64 (by omega) (by omega), ih (i + 1) _ (by omega) (by omega) (by omega), Int.add_assoc]
theorem impl_BytesLacking_eq {u : Nat} (hu : 1099511627776 ≤ u) {b : List Int} (hb : M.isBytes b) (hl : b.length ≤ 1073741823) {m : Manifest} (hm : m.fSums.length ≤ 1073741824) : impl_BytesLacking u b m = some (M.bytesLacking b m) := by
  unfold impl_BytesLacking
  rw [impl_Lacking_eq hu hb hl hm]
  simp only [Option.bind_some, impl_PartsIn_eq hu]
  have h := partsIn_length (M.placed b m false : Nat)
  rw [impl_BytesLacking_l2_w u _ m 0 u (by omega) (by omega), impl_BytesLacking_w u _ m _ 0 0 (by omega) (by omega) (by omega)]
  simp [M.bytesLacking]
theorem spec_BytesLacking_eq {u : Nat} (hu : 1099511627776 ≤ u) {b : List Int} (hb : M.isBytes b) (hl : b.length ≤ 1073741823) {m : Manifest} (hm : m.fSums.length ≤ 1073741824) : spec_BytesLacking u b m = some (M.bytesLacking b m) := by
  unfold spec_BytesLacking
  rw [spec_Lacking_eq hu hb hl hm]
  simp only [Option.bind_some, spec_PartsIn_eq hu]
  have h := partsIn_length (M.placed b m false : Nat)
  rw [spec_BytesLacking_l2_w u _ m 0 u (by omega) (by omega), spec_BytesLacking_w u _ m _ 0 0 (by omega) (by omega) (by omega)]
  simp [M.bytesLacking]
theorem bytesLacking_range (b : List Int) (m : Manifest) : -40000 ≤ M.bytesLacking b m ∧ M.bytesLacking b m ≤ 240 := by
  have h := partsIn_length (M.placed b m false : Nat)
  have := lenOf_range m (M.partsIn (M.placed b m false : Nat))
  unfold M.bytesLacking; omega
theorem manOf_len (gen : Int) (b : List Int) (size : Int) : (M.manOf gen b size).fSums.length ≤ 40 := by
  unfold M.manOf
  split
  · have := blocks_range size b.length
    simp [M.sumsOf]; omega
  · simp
def M.savedBy (b old : List Int) (size : Int) : Int := if M.sizeOk size b.length then b.length - M.bytesLacking old (M.manOf 1 b size) else 0
theorem impl_SavedBy_eq {u : Nat} (hu : 1099511627776 ≤ u) {b old : List Int} (hb : M.isBytes b) (hl : b.length ≤ 1073741823) (ho : M.isBytes old) (hol : old.length ≤ 1073741823) (size : Int) : impl_SavedBy u b old size = some (M.savedBy b old size) := by
  unfold impl_SavedBy M.savedBy
  have h1 := manOf_len 1 b size
  have h2 := bytesLacking_range old (M.manOf 1 b size)
  rw [impl_SizeOk_eq, impl_ManOf_eq hu hb (by omega)]
  simp only [Option.bind_some]
  rw [impl_BytesLacking_eq hu ho hol (by omega)]
  simp only [Option.bind_some]
  rw [bSub_i64 (by omega) (by omega)]
  cases M.sizeOk size b.length <;> simp
theorem spec_SavedBy_eq {u : Nat} (hu : 1099511627776 ≤ u) {b old : List Int} (hb : M.isBytes b) (hl : b.length ≤ 1073741823) (ho : M.isBytes old) (hol : old.length ≤ 1073741823) (size : Int) : spec_SavedBy u b old size = some (M.savedBy b old size) := by
  unfold spec_SavedBy M.savedBy
  have h1 := manOf_len 1 b size
  have h2 := bytesLacking_range old (M.manOf 1 b size)
  rw [spec_SizeOk_eq, spec_ManOf_eq hu hb (by omega)]
  simp only [Option.bind_some]
  rw [spec_BytesLacking_eq hu ho hol (by omega)]
  simp only [Option.bind_some]
  rw [bSub_i64 (by omega) (by omega)]
  cases M.sizeOk size b.length <;> simp
theorem manOf_wf (gen : Int) (b : List Int) (size : Int) (hb : M.isBytes b) : M.manWf (M.manOf gen b size) := by
  unfold M.manOf M.manWf
  split
  · intro s hs
    simp only [M.sumsOf, List.mem_map] at hs
    obtain ⟨i, _, rfl⟩ := hs
    have h := blockAt_bytes hb size (i : Int)
    unfold M.sumOf
    rw [if_neg (by omega)]
    have := valS_bound (M.blockAt b size i).1 1 0 h.1 (by omega) (by decide)
    have h6 : (256 : Int) ^ (0 + (M.blockAt b size i).1.length) ≤ 281474976710656 := by
      have h7 := h.2
      generalize (M.blockAt b size i).1.length = n at h7
      rcases (show n = 0 ∨ n = 1 ∨ n = 2 ∨ n = 3 ∨ n = 4 ∨ n = 5 ∨ n = 6 by omega) with rfl | rfl | rfl | rfl | rfl | rfl | rfl <;> decide
    dsimp only
    omega
  · intro s hs; simp at hs
theorem putSums_length : ∀ (l : List Sum) (b : List Int), (M.putSums b l).length ≤ b.length + 10 * l.length := by
  intro l
  induction l with
  | nil => intro b; simp [M.putSums]
  | cons s l ih =>
    intro b
    have h1 := ih (b ++ M.var 9 s.fS)
    have h2 := var_length 9 s.fS
    simp only [M.putSums, List.length_cons, List.length_append] at h1 ⊢
    omega
theorem manBytes_range (m : Manifest) : 0 ≤ M.manBytes m ∧ M.manBytes m ≤ 430 := by
  unfold M.manBytes M.putMan
  split
  · rename_i h
    have h0 := manOk_len h
    have h1 := putVar_length [] m.fGen
    have h2 := putVar_length (M.putVar [] m.fGen) m.fSize
    have h3 := putVar_length (M.putVar (M.putVar [] m.fGen) m.fSize) m.fLen
    have h4 := putSums_length m.fSums (M.putVar (M.putVar (M.putVar [] m.fGen) m.fSize) m.fLen)
    simp only [List.length_nil] at h1
    omega
  · simp
def M.costs (m : Manifest) : List Image → Int → Int
  | [], a => a
  | x :: l, a => M.costs m l (a + M.manBytes m + M.bytesLacking x.fB m)
def M.costOf (b : List Int) (old : List Image) (size : Int) : Int := if M.sizeOk size b.length then M.costs (M.manOf 1 b size) old 0 else -1
def M.imgsOk (old : List Image) : Prop := ∀ x ∈ old, M.isBytes x.fB ∧ x.fB.length ≤ 1048576
theorem costs_range (m : Manifest) : ∀ (l : List Image) (a : Int), a - 40000 * l.length ≤ M.costs m l a ∧ M.costs m l a ≤ a + 670 * l.length := by
  intro l
  induction l with
  | nil => intro a; simp [M.costs]
  | cons x l ih =>
    intro a
    have h1 := manBytes_range m
    have h2 := bytesLacking_range x.fB m
    have h3 := ih (a + M.manBytes m + M.bytesLacking x.fB m)
    simp only [M.costs, List.length_cons]
    omega
theorem impl_CostOf_w {u : Nat} (hu : 1099511627776 ≤ u) (p : List Image) {m : Manifest} (hm : m.fSums.length ≤ 40) (hw : M.manWf m) : ∀ (l : List Image) (i : Nat) (a : Int), M.imgsOk l → -1000000000000 + 40000 * l.length ≤ a → a ≤ 1000000000000 - 670 * l.length →
    wlist (impl_CostOf_l2_f u p m) (impl_CostOf_l2_b u p m) l i a = some (M.costs m l a) := by
  intro l
  induction l with
  | nil => intro i a _ _ _; rfl
  | cons x l ih =>
    intro i a ho h1 h2
    have hx := ho x (by simp)
    have h3 := manBytes_range m
    have h4 := bytesLacking_range x.fB m
    simp only [List.length_cons] at h1 h2
    simp only [wlist, impl_CostOf_l2_b, impl_ManBytes_eq hu (show m.fSums.length ≤ 1073741824 by omega) hw, impl_BytesLacking_eq hu hx.1 (show x.fB.length ≤ 1073741823 by omega) (show m.fSums.length ≤ 1073741824 by omega), Option.bind_some, M.costs]
    rw [bAdd_i64 (a := M.manBytes m) (by omega) (by omega), bAdd_i64 (by omega) (by omega), ← Int.add_assoc]
    exact ih (i + 1) _ (fun z hz => ho z (by simp [hz])) (by omega) (by omega)
theorem spec_CostOf_w {u : Nat} (hu : 1099511627776 ≤ u) {p : List Image} {m : Manifest} (hm : m.fSums.length ≤ 40) (hw : M.manWf m) (ho : M.imgsOk p) (hp : p.length ≤ 1048576) : ∀ (n i : Nat) (a : Int), i + n = p.length → -1000000000000 + 40000 * n ≤ a → a ≤ 1000000000000 - 670 * n →
    walk (spec_CostOf_l2_f u p m) (spec_CostOf_l2_b u p m) n i a = some (M.costs m (p.drop i) a) := by
  intro n
  induction n with
  | zero => intro i a h0 _ _; rw [List.drop_of_length_le (by omega)]; rfl
  | succ n ih =>
    intro i a h0 h1 h2
    have hx := List.getElem?_eq_getElem (l := p) (i := i) (by omega)
    have hx2 := ho p[i] (List.getElem_mem (by omega))
    have h3 := manBytes_range m
    have h4 := bytesLacking_range p[i].fB m
    rw [List.drop_eq_getElem_cons (by omega)]
    simp only [walk, spec_CostOf_l2_b, spec_ManBytes_eq hu (show m.fSums.length ≤ 1073741824 by omega) hw, idx_nat, hx, spec_BytesLacking_eq hu hx2.1 (show p[i].fB.length ≤ 1073741823 by omega) (show m.fSums.length ≤ 1073741824 by omega), Option.bind_some, M.costs]
    rw [bAdd_i64 (a := a) (by omega) (by omega), bAdd_i64 (by omega) (by omega)]
    exact ih (i + 1) _ (by omega) (by omega) (by omega)
theorem impl_CostOf_eq {u : Nat} (hu : 1099511627776 ≤ u) {b : List Int} (hb : M.isBytes b) (hl : b.length ≤ 1073741823) {old : List Image} (ho : M.imgsOk old) (hol : old.length ≤ 1048576) (size : Int) : impl_CostOf u b old size = some (M.costOf b old size) := by
  unfold impl_CostOf M.costOf
  have h1 := manOf_len 1 b size
  rw [impl_SizeOk_eq, impl_ManOf_eq hu hb (by omega)]
  simp only [Option.bind_some]
  rw [impl_CostOf_l2_w u old _ 0 u (by omega) (by omega), impl_CostOf_w hu _ h1 (manOf_wf 1 b size hb) old 0 0 ho (by omega) (by omega)]
  cases M.sizeOk size b.length <;> simp
theorem spec_CostOf_eq {u : Nat} (hu : 1099511627776 ≤ u) {b : List Int} (hb : M.isBytes b) (hl : b.length ≤ 1073741823) {old : List Image} (ho : M.imgsOk old) (hol : old.length ≤ 1048576) (size : Int) : spec_CostOf u b old size = some (M.costOf b old size) := by
  unfold spec_CostOf M.costOf
  have h1 := manOf_len 1 b size
  rw [spec_SizeOk_eq, spec_ManOf_eq hu hb (by omega)]
  simp only [Option.bind_some]
  rw [spec_CostOf_l2_w u old _ 0 u (by omega) (by omega), Int.toNat_natCast, spec_CostOf_w hu h1 (manOf_wf 1 b size hb) ho hol old.length 0 0 (by omega) (by omega) (by omega)]
  cases M.sizeOk size b.length <;> simp
theorem empties_ok (n : Nat) : M.imgsOk (List.replicate n ⟨[]⟩) := fun x hx => by
  obtain ⟨_, rfl⟩ := List.mem_replicate.1 hx
  exact ⟨by simp [M.isBytes], by simp⟩
def M.worstFor (b : List Int) (n size : Int) : Int := M.costOf b (List.replicate (if M.within n 0 7 then n.toNat else 0) ⟨[]⟩) size
theorem impl_WorstFor_eq {u : Nat} (hu : 1099511627776 ≤ u) {b : List Int} (hb : M.isBytes b) (hl : b.length ≤ 1073741823) (n size : Int) : impl_WorstFor u b n size = some (M.worstFor b n size) := by
  unfold impl_WorstFor M.worstFor impl_WorstFor_j1
  rw [impl_within_eq]
  simp only [Option.bind_some]
  cases h : M.within n 0 7 with
  | false =>
    simp only [Bool.not_false, cond_true, Bool.false_eq_true, if_false]
    rw [show chk (decide (0 ≤ (0 : Int)) && ((0 : Int) == 0 || (0 : Int) == 0)) = some () by rfl, chk_dec (by simp)]
    simp only [Option.bind_some]
    rw [impl_CostOf_eq hu hb hl (empties_ok _) (by simp)]; rfl
  | true =>
    have h := within_t h
    obtain ⟨n, rfl⟩ := Int.eq_ofNat_of_zero_le h.1
    simp only [Bool.not_true, cond_false, if_true]
    rw [chk_len, chk_dec (by rw [Int.toNat_natCast]; omega)]
    simp only [Option.bind_some]
    rw [impl_CostOf_eq hu hb hl (empties_ok _) (by simp; omega)]; rfl
theorem spec_WorstFor_l2_eq {u : Nat} (hu : 1099511627776 ≤ u) {b : List Int} (hb : M.isBytes b) (hl : b.length ≤ 1073741823) {n : Int} (size : Int) (hn : n ≤ 7) : ∀ (c k i : Nat), i + c = n.toNat → c < k →
    spec_WorstFor_l2 u k b n size (List.replicate i ⟨[]⟩) i = some (M.costOf b (List.replicate n.toNat ⟨[]⟩) size) := by
  intro c
  induction c with
  | zero =>
    intro k i h1 h2
    obtain ⟨k, rfl⟩ : ∃ j, k = j + 1 := ⟨k - 1, by omega⟩
    unfold spec_WorstFor_l2 spec_WorstFor_j3 spec_WorstFor_j1
    have : ¬ ((i : Int) < n) := by omega
    simp only [this, decide_false, cond_false]
    rw [spec_CostOf_eq hu hb hl (empties_ok _) (by simp; omega), show i = n.toNat by omega]; rfl
  | succ c ih =>
    intro k i h1 h2
    obtain ⟨k, rfl⟩ : ∃ j, k = j + 1 := ⟨k - 1, by omega⟩
    unfold spec_WorstFor_l2 spec_WorstFor_j3
    have h3 : (i : Int) < n := by omega
    simp only [h3, hn, decide_true, cond_true]
    rw [chk_dec (by simp; omega), bAdd_succ (by omega)]
    simp only [Option.bind_some]
    rw [show List.replicate i (⟨[]⟩ : Image) ++ [⟨[]⟩] = List.replicate (i + 1) ⟨[]⟩ by rw [List.replicate_succ']]
    exact ih k (i + 1) (by omega) (by omega)
theorem spec_WorstFor_eq {u : Nat} (hu : 1099511627776 ≤ u) {b : List Int} (hb : M.isBytes b) (hl : b.length ≤ 1073741823) (n size : Int) : spec_WorstFor u b n size = some (M.worstFor b n size) := by
  unfold spec_WorstFor M.worstFor
  by_cases hn : n ≤ 7
  · have := spec_WorstFor_l2_eq hu hb hl size hn n.toNat u 0 (by omega) (by omega)
    simp only [List.replicate_zero] at this
    rw [show ((0 : Nat) : Int) = 0 by rfl] at this
    rw [this]
    cases h : M.within n 0 7 with
    | false =>
      have := within_f h
      rw [show n.toNat = 0 by omega]; rfl
    | true => rfl
  · obtain ⟨k, rfl⟩ : ∃ j, u = j + 1 := ⟨u - 1, by omega⟩
    have h : M.within n 0 7 = false := by simp [M.within]; omega
    unfold spec_WorstFor_l2 spec_WorstFor_j3 spec_WorstFor_j1
    simp only [hn, decide_false, cond_false, h]
    rw [spec_CostOf_eq hu hb hl (old := []) (fun x hx => by simp at hx) (by simp)]
    cases decide ((0 : Int) < n) <;> rfl
def M.bestFrom (b : List Int) (old : List Image) : Nat → Nat → Nat → Nat
  | 0, _, best => best
  | c + 1, s, best => M.bestFrom b old c (s + 1) (if 0 ≤ M.costOf b old s ∧ (best = 0 ∨ M.costOf b old s < M.costOf b old best) then s else best)
theorem impl_BestSize_l2_eq {u : Nat} (hu : 1099511627776 ≤ u) {b : List Int} (hb : M.isBytes b) (hl : b.length ≤ 1073741823) {old : List Image} (ho : M.imgsOk old) (hol : old.length ≤ 1048576) : ∀ (c k s best : Nat) (low : Int), s + c = 7 → c < k → (best = 0 ∨ low = M.costOf b old best) →
    impl_BestSize_l2 u k b old best low s = some (M.bestFrom b old c s best : Int) := by
  intro c
  induction c with
  | zero =>
    intro k s best low h1 h2 h3
    obtain ⟨k, rfl⟩ : ∃ j, k = j + 1 := ⟨k - 1, by omega⟩
    unfold impl_BestSize_l2 impl_BestSize_j1
    have : ¬ ((s : Int) ≤ 6) := by omega
    simp only [this, decide_false, cond_false, M.bestFrom]
  | succ c ih =>
    intro k s best low h1 h2 h3
    obtain ⟨k, rfl⟩ : ∃ j, k = j + 1 := ⟨k - 1, by omega⟩
    unfold impl_BestSize_l2 impl_BestSize_j4 impl_BestSize_j3
    have h4 : (s : Int) ≤ 6 := by omega
    simp only [h4, decide_true, cond_true, impl_CostOf_eq hu hb hl ho hol, Option.bind_some, cond_false, M.bestFrom]
    rw [bAdd_succ (by omega)]
    have e1 := ih k (s + 1) s (M.costOf b old s) (by omega) (by omega) (.inr rfl)
    have e2 := ih k (s + 1) best low (by omega) (by omega) h3
    by_cases h5 : 0 ≤ M.costOf b old s
    · have h5' : M.costOf b old s ≥ 0 := h5
      simp only [h5', decide_true, cond_true]
      by_cases h6 : best = 0
      · subst h6
        simp only [Int.natCast_zero, beq_self_eq_true, cond_true, h5, true_and, true_or, if_true]
        exact e1
      · have h7 : ((best : Int) == 0) = false := by simpa using h6
        have h8 : low = M.costOf b old best := h3.resolve_left h6
        simp only [h7, cond_false, h5, h6, true_and, false_or]
        subst h8
        by_cases h9 : M.costOf b old s < M.costOf b old best
        · simp only [h9, decide_true, cond_true, if_true]; exact e1
        · simp only [h9, decide_false, cond_false, if_false]; exact e2
    · have h5' : ¬ (M.costOf b old s ≥ 0) := h5
      simp only [h5', decide_false, cond_false, h5, false_and, if_false]
      exact e2
theorem spec_BestSize_l2_eq {u : Nat} (hu : 1099511627776 ≤ u) {b : List Int} (hb : M.isBytes b) (hl : b.length ≤ 1073741823) {old : List Image} (ho : M.imgsOk old) (hol : old.length ≤ 1048576) : ∀ (c k s best : Nat), s + c = 7 → c < k →
    spec_BestSize_l2 u k b old best s = some (M.bestFrom b old c s best : Int) := by
  intro c
  induction c with
  | zero =>
    intro k s best h1 h2
    obtain ⟨k, rfl⟩ : ∃ j, k = j + 1 := ⟨k - 1, by omega⟩
    unfold spec_BestSize_l2 spec_BestSize_j1
    have : ¬ ((s : Int) ≤ 6) := by omega
    simp only [this, decide_false, cond_false, M.bestFrom]
  | succ c ih =>
    intro k s best h1 h2
    obtain ⟨k, rfl⟩ : ∃ j, k = j + 1 := ⟨k - 1, by omega⟩
    unfold spec_BestSize_l2 spec_BestSize_j4 spec_BestSize_j3
    have h4 : (s : Int) ≤ 6 := by omega
    simp only [h4, decide_true, cond_true, spec_CostOf_eq hu hb hl ho hol, Option.bind_some, cond_false, M.bestFrom]
    rw [bAdd_succ (by omega)]
    have e1 := ih k (s + 1) s (by omega) (by omega)
    have e2 := ih k (s + 1) best (by omega) (by omega)
    by_cases h5 : 0 ≤ M.costOf b old s
    · have h5' : M.costOf b old s ≥ 0 := h5
      simp only [h5', decide_true, cond_true]
      by_cases h6 : best = 0
      · subst h6
        simp only [Int.natCast_zero, beq_self_eq_true, cond_true, h5, true_and, true_or, if_true]
        exact e1
      · have h7 : ((best : Int) == 0) = false := by simpa using h6
        simp only [h7, cond_false, h5, h6, true_and, false_or]
        by_cases h9 : M.costOf b old s < M.costOf b old best
        · simp only [h9, decide_true, cond_true, if_true]; exact e1
        · simp only [h9, decide_false, cond_false, if_false]; exact e2
    · have h5' : ¬ (M.costOf b old s ≥ 0) := h5
      simp only [h5', decide_false, cond_false, h5, false_and, if_false]
      exact e2
structure Cu (c : l1Cur) : Prop where
  i0 : 0 ≤ c.fI
  n : c.fI ≤ (c.fB.length : Int)
  len : c.fB.length ≤ 1048576
def Dr {α : Type} (r : Option (α × l1Cur)) (p : α → Prop) : Prop := ∃ v c, r = some (v, c) ∧ p v ∧ Cu c
theorem Dr_mono {α : Type} {r : Option (α × l1Cur)} {p q : α → Prop} (h : Dr r p) (hpq : ∀ v, p v → q v) : Dr r q := by
  obtain ⟨v, c, e, h1, h2⟩ := h
  exact ⟨v, c, e, hpq v h1, h2⟩
theorem Dr_bind {α β : Type} {r : Option (α × l1Cur)} {p : α → Prop} {f : α × l1Cur → Option (β × l1Cur)} {q : β → Prop} (h : Dr r p) (hf : ∀ v c, p v → Cu c → Dr (f (v, c)) q) : Dr (r.bind f) q := by
  obtain ⟨v, c, e, h1, h2⟩ := h
  rw [e]
  exact hf v c h1 h2
theorem Dr_some {α : Type} {v : α} {c : l1Cur} {p : α → Prop} (h : p v) (hc : Cu c) : Dr (Option.some (v, c)) p := ⟨v, c, rfl, h, hc⟩
theorem and255 (a : Int) : 0 ≤ bAnd .i64 a 255 ∧ bAnd .i64 a 255 ≤ 255 := by
  unfold bAnd
  have h : (BitVec.ofInt 64 a &&& BitVec.ofInt 64 255).toNat ≤ 255 := by
    rw [BitVec.toNat_and]
    exact Nat.and_le_right
  have e : IntKind.wrap .i64 (((BitVec.ofInt 64 a &&& BitVec.ofInt 64 255).toNat : Nat) : Int) = (((BitVec.ofInt 64 a &&& BitVec.ofInt 64 255).toNat : Nat) : Int) := wrap_i64 (by omega) (by omega)
  show 0 ≤ IntKind.wrap .i64 (((BitVec.ofInt 64 a &&& BitVec.ofInt 64 255).toNat : Nat) : Int) ∧ IntKind.wrap .i64 (((BitVec.ofInt 64 a &&& BitVec.ofInt 64 255).toNat : Nat) : Int) ≤ 255
  rw [e]
  omega
theorem l1New_eq {u : Nat} (hu : 1099511627776 ≤ u) {code : List Int} (h : code.length ≤ 1048576) : ∃ c, spec_l1New u code = some c ∧ Cu c := by
  have key : ∀ (m k i : Nat) (x : Int), i + m = code.length → m < k → ∃ c, spec_l1New_l2 u k code x (i : Int) = some c ∧ Cu c := by
    intro m
    induction m with
    | zero =>
      intro k i x hi hk
      obtain ⟨k, rfl⟩ : ∃ j, k = j + 1 := ⟨k - 1, by omega⟩
      unfold spec_l1New_l2
      have : ¬ ((i : Int) < (code.length : Int)) := by omega
      simp only [this, decide_false, cond_false, spec_l1New_j3, spec_l1New_j1]
      exact ⟨_, rfl, ⟨Int.le_refl 0, Int.natCast_nonneg _, h⟩⟩
    | succ m ih =>
      intro k i x hi hk
      obtain ⟨k, rfl⟩ : ∃ j, k = j + 1 := ⟨k - 1, by omega⟩
      unfold spec_l1New_l2
      have hlt : (i : Int) < (code.length : Int) := by omega
      simp only [hlt, decide_true, cond_true, spec_l1New_j3]
      by_cases h4 : (i : Int) < 4000
      · simp only [h4, decide_true, cond_true, idx_nat]
        obtain ⟨y, hy⟩ : ∃ y, code[i]? = some y := ⟨code[i], List.getElem?_eq_getElem (by omega)⟩
        rw [hy]
        simp only [Option.bind_some]
        rw [bAdd_succ (by omega)]
        exact ih k (i + 1) _ (by omega) (by omega)
      · simp only [h4, decide_false, cond_false, spec_l1New_j1]
        exact ⟨_, rfl, ⟨Int.le_refl 0, Int.natCast_nonneg _, h⟩⟩
  exact key code.length u 0 _ (by omega) (by omega)
theorem l1Byte_dr (u : Nat) {c : l1Cur} (hc : Cu c) : Dr (spec_l1Byte u c) (fun v => 0 ≤ v ∧ v ≤ 255) := by
  have h0 := hc.i0
  have h1 := hc.n
  have h2 := hc.len
  unfold spec_l1Byte
  by_cases h : c.fI < (c.fB.length : Int)
  · simp only [h, decide_true, cond_true]
    obtain ⟨i, hi⟩ : ∃ i : Nat, c.fI = (i : Int) := ⟨c.fI.toNat, by omega⟩
    rw [hi, idx_nat, List.getElem?_eq_getElem (by omega)]
    simp only [Option.bind_some, spec_l1Byte_j1]
    exact Dr_some (and255 _) ⟨by show 0 ≤ bAdd .i64 (i : Int) 1; rw [bAdd_succ (by omega)]; omega, by show bAdd .i64 (i : Int) 1 ≤ (c.fB.length : Int); rw [bAdd_succ (by omega)]; omega, h2⟩
  · simp only [h, decide_false, cond_false, spec_l1Byte_j1]
    exact Dr_some (and255 _) ⟨h0, h1, h2⟩
theorem l1Below_dr (u : Nat) {c : l1Cur} (hc : Cu c) (n : Int) : Dr (spec_l1Below u c n) (fun v => 0 ≤ v ∧ (0 < n → v < n)) := by
  unfold spec_l1Below
  by_cases h : n ≤ 0
  · simp only [h, decide_true, cond_true]
    exact Dr_some ⟨Int.le_refl 0, fun h' => by omega⟩ hc
  · have hn : (!(n == 0)) = true := by simp; omega
    have hr : ∀ a : Int, 0 ≤ a → 0 ≤ bRem .i64 a n ∧ (0 < n → bRem .i64 a n < n) := fun a ha => by
      rw [bRem_pos ha]
      exact ⟨Int.emod_nonneg _ (by omega), fun _ => Int.emod_lt_of_pos _ (by omega)⟩
    simp only [h, decide_false, cond_false]
    by_cases h2 : n ≤ 256
    · simp only [h2, decide_true, cond_true]
      refine Dr_bind (l1Byte_dr u hc) fun v c' hv hc' => ?_
      rw [hn]
      exact Dr_some (hr v hv.1) hc'
    · simp only [h2, decide_false, cond_false]
      refine Dr_bind (l1Byte_dr u hc) fun v c' hv hc' => ?_
      refine Dr_bind (l1Byte_dr u hc') fun v2 c2 hv2 hc2 => ?_
      refine Dr_bind (l1Byte_dr u hc2) fun v3 c3 hv3 hc3 => ?_
      rw [hn]
      refine Dr_some (hr _ ?_) hc3
      simp only
      rw [bMul_i64 (by omega) (by omega), bMul_i64 (by omega) (by omega), bAdd_i64 (a := v * 65536) (b := v2 * 256) (by omega) (by omega), bAdd_i64 (by omega) (by omega)]
      omega
theorem l1Once_dr (u : Nat) {c : l1Cur} (hc : Cu c) (n : Int) : Dr (spec_l1Once u c n) (fun _ => True) := by
  unfold spec_l1Once
  exact Dr_bind (l1Below_dr u hc n) fun v c' _ hc' => Dr_some trivial hc'
theorem l1Int_dr (u : Nat) {c : l1Cur} (hc : Cu c) {xs : List Int} (hx : 0 < xs.length) : Dr (spec_l1Int u c xs) (fun v => v ∈ xs) := by
  unfold spec_l1Int
  refine Dr_bind (l1Below_dr u hc _) fun v c' hv hc' => ?_
  have hlt := hv.2 (by omega)
  obtain ⟨i, hi⟩ : ∃ i : Nat, v = (i : Int) := ⟨v.toNat, by omega⟩
  subst hi
  have hi : i < xs.length := by omega
  simp only [idx_nat, List.getElem?_eq_getElem hi, Option.bind_some]
  exact Dr_some (List.getElem_mem hi) hc'
def M.bestInv (b : List Int) (old : List Image) (s best : Nat) : Prop := (best = 0 ∧ ∀ j : Nat, 2 ≤ j → j < s → M.costOf b old j < 0) ∨
  (best ≠ 0 ∧ 0 ≤ M.costOf b old best ∧ best < s ∧ ∀ j : Nat, 2 ≤ j → j < s → 0 ≤ M.costOf b old j → M.costOf b old best ≤ M.costOf b old j ∧ (j < best → M.costOf b old best < M.costOf b old j))
theorem bestFrom_inv (b : List Int) (old : List Image) : ∀ (c s best : Nat), 2 ≤ s → M.bestInv b old s best → M.bestInv b old (s + c) (M.bestFrom b old c s best)
  | 0, s, best, _, h => h
  | c + 1, s, best, hs, h => by
    rw [M.bestFrom, show s + (c + 1) = s + 1 + c by omega]
    refine bestFrom_inv b old c (s + 1) _ (by omega) ?_
    by_cases h1 : 0 ≤ M.costOf b old s ∧ (best = 0 ∨ M.costOf b old s < M.costOf b old best)
    · rw [if_pos h1]
      refine .inr ⟨by omega, h1.1, by omega, fun j h2 h3 h4 => ?_⟩
      by_cases hj : j = s
      · subst hj; exact ⟨Int.le_refl _, fun h => by omega⟩
      · rcases h with ⟨h5, h6⟩ | ⟨h5, h6, h7, h8⟩
        · have := h6 j h2 (by omega); omega
        · have h9 := h8 j h2 (by omega) h4
          have h10 : M.costOf b old s < M.costOf b old best := h1.2.resolve_left h5
          exact ⟨by omega, fun _ => by omega⟩
    · rw [if_neg h1]
      rcases h with ⟨h5, h6⟩ | ⟨h5, h6, h7, h8⟩
      · refine .inl ⟨h5, fun j h2 h3 => ?_⟩
        by_cases hj : j = s
        · subst hj
          have := mt (fun h : 0 ≤ M.costOf b old j => (⟨h, .inl h5⟩ : _ ∧ _)) h1
          omega
        · exact h6 j h2 (by omega)
      · refine .inr ⟨h5, h6, by omega, fun j h2 h3 h4 => ?_⟩
        by_cases hj : j = s
        · subst hj
          have : ¬ M.costOf b old j < M.costOf b old best := fun h => h1 ⟨h4, .inr h⟩
          exact ⟨by omega, fun h => by omega⟩
        · exact h8 j h2 (by omega) h4
theorem best_all (b : List Int) (old : List Image) : M.bestInv b old 7 (M.bestFrom b old 5 2 0) := bestFrom_inv b old 5 2 0 (Nat.le_refl 2) (.inl ⟨rfl, fun j h1 h2 => by omega⟩)
def M.S : Nat → (Nat → Int) → Int
  | 0, _ => 0
  | n + 1, g => M.S n g + g n
theorem S_le {f g : Nat → Int} : ∀ n : Nat, (∀ i, i < n → f i ≤ g i) → M.S n f ≤ M.S n g
  | 0, _ => Int.le_refl _
  | n + 1, h => by
    have h1 := S_le n (fun i hi => h i (by omega))
    have h2 := h n (by omega)
    simp only [M.S]; omega
theorem S_zero {f : Nat → Int} : ∀ n : Nat, (∀ i, i < n → f i = 0) → M.S n f = 0
  | 0, _ => rfl
  | n + 1, h => by
    simp only [M.S]
    rw [S_zero n (fun i hi => h i (by omega)), h n (by omega)]; rfl
theorem lenOf_app (m : Manifest) : ∀ a b : List Int, M.lenOf m (a ++ b) = M.lenOf m a + M.lenOf m b
  | [], b => by simp [M.lenOf]
  | x :: a, b => by simp only [List.cons_append, M.lenOf, lenOf_app m a b]; omega
theorem lenOf_S (m : Manifest) (p : Nat → Bool) : ∀ n : Nat, M.lenOf m (((List.range n).filter p).map Int.ofNat) = M.S n fun i => if p i = true then (M.spanOf m.fSize m.fLen (i : Int)).2 else 0
  | 0 => rfl
  | n + 1 => by
    rw [List.range_succ, List.filter_append, List.map_append, lenOf_app, lenOf_S m p n, M.S]
    congr 1
    cases h : p n <;> simp [h, M.lenOf]
theorem placed_setOk (b : List Int) (m : Manifest) (x : Bool) : M.setOk ((M.placed b m x : Nat) : Int) = true := by
  have := placed_range b m x
  simp [M.setOk, M.within]; omega
theorem lacking_S (b : List Int) (m : Manifest) : M.bytesLacking b m = M.S 40 fun i => if (decide (i < min m.fSums.length 40) && (M.has b m i == false)) = true then (M.spanOf m.fSize m.fLen (i : Int)).2 else 0 := by
  unfold M.bytesLacking M.partsIn
  rw [if_pos (placed_setOk b m false), Int.toNat_natCast, lenOf_S]
  congr 1
  funext i
  unfold M.placed
  rw [testBit_setBy]
theorem has_nil (m : Manifest) (i : Nat) : M.has [] m i = false := by
  unfold M.has M.placeOf
  split
  · rename_i s hs
    unfold M.findSum
    split
    · rename_i h
      have := within_t h
      obtain ⟨k, hk⟩ : ∃ k, (M.spanOf m.fSize m.fLen (i : Int)).2.toNat = k + 1 := ⟨(M.spanOf m.fSize m.fLen (i : Int)).2.toNat - 1, by omega⟩
      rw [hk]
      simp [M.findFrom]
    · simp
  · simp
theorem lacking_nil (b : List Int) {m : Manifest} (h : 0 ≤ m.fLen) : M.bytesLacking b m ≤ M.bytesLacking [] m := by
  rw [lacking_S, lacking_S]
  refine S_le 40 fun i _ => ?_
  have h1 := (spanOf_range (size := m.fSize) (n := m.fLen) (i := (i : Int)) h).2.1
  rw [has_nil]
  cases decide (i < min m.fSums.length 40) <;> cases M.has b m i <;> simp <;> omega
theorem lacking_nonneg (b : List Int) {m : Manifest} (h : 0 ≤ m.fLen) : 0 ≤ M.bytesLacking b m := by
  rw [lacking_S]
  refine Int.le_trans (Int.le_of_eq (S_zero (f := fun _ => 0) 40 (fun _ _ => rfl)).symm) (S_le 40 fun i _ => ?_)
  have h1 := (spanOf_range (size := m.fSize) (n := m.fLen) (i := (i : Int)) h).2.1
  split <;> omega
theorem manOf_flen (b : List Int) (size : Int) : 0 ≤ (M.manOf 1 b size).fLen := by
  unfold M.manOf
  split <;> simp
theorem costs_le {m : Manifest} (h : 0 ≤ m.fLen) : ∀ (l : List Image) (a c : Int), a ≤ c → M.costs m l a ≤ M.costs m (List.replicate l.length ⟨[]⟩) c
  | [], a, c, hac => hac
  | x :: l, a, c, hac => by
    have h1 := lacking_nil x.fB h
    simp only [List.length_cons, List.replicate_succ, M.costs]
    exact costs_le h l _ _ (by omega)
theorem worst_ge (b : List Int) (l : List Image) (hl : l.length ≤ 7) (k : Int) : M.costOf b l k ≤ M.worstFor b (l.length : Int) k := by
  unfold M.worstFor M.costOf
  have hw : M.within (l.length : Int) 0 7 = true := by simp [M.within]; omega
  rw [if_pos hw, Int.toNat_natCast]
  split
  · exact costs_le (manOf_flen b k) l 0 0 (Int.le_refl 0)
  · exact Int.le_refl _
theorem span_sum {size n : Int} (h : M.sizeOk size n = true) : ∀ k : Nat, M.S k (fun i => (M.spanOf size n (i : Int)).2) ≤ n ∧ ((k : Int) ≤ M.blocks size n → M.S k (fun i => (M.spanOf size n (i : Int)).2) ≤ k * size)
  | 0 => by
    have := sizeOk_t h
    simp only [M.S]; exact ⟨by omega, fun _ => by simp⟩
  | k + 1 => by
    obtain ⟨h1, h2⟩ := span_sum h k
    have hs := sizeOk_t h
    simp only [M.S]
    unfold M.spanOf
    by_cases hk : M.within (k : Int) 0 (M.blocks size n - 1) = true
    · rw [if_pos hk]
      have h3 := within_t hk
      have h4 := h2 (by omega)
      unfold M.spanOf at h4
      have e : (((k + 1 : Nat) : Int)) * size = (k : Int) * size + size := by rw [Int.natCast_add, Int.add_mul]; simp
      refine ⟨?_, fun _ => ?_⟩
      · try simp only
        omega
      · rw [e]
        try simp only
        omega
    · rw [if_neg hk]
      unfold M.spanOf at h1
      refine ⟨by omega, fun h5 => ?_⟩
      exact absurd (show M.within (k : Int) 0 (M.blocks size n - 1) = true by simp [M.within]; omega) hk
theorem manOf_one {b : List Int} {size : Int} (h : M.sizeOk size b.length = true) : M.manOf 1 b size = ⟨1, size, b.length, M.sumsOf b size⟩ := by
  unfold M.manOf
  rw [h]; rfl
theorem lacking_len (old : List Int) {b : List Int} {size : Int} (h : M.sizeOk size b.length = true) : M.bytesLacking old (M.manOf 1 b size) ≤ b.length := by
  rw [lacking_S, manOf_one h]
  refine Int.le_trans (S_le 40 fun i _ => ?_) (span_sum h 40).1
  have h1 := (spanOf_range (size := size) (n := (b.length : Int)) (i := (i : Int)) (by omega)).2.1
  show (if _ then (M.spanOf size b.length (i : Int)).2 else 0) ≤ (M.spanOf size b.length (i : Int)).2
  split <;> omega
theorem savedBy_range (b old : List Int) (size : Int) : 0 ≤ M.savedBy b old size ∧ M.savedBy b old size ≤ b.length := by
  unfold M.savedBy
  split
  · rename_i h
    have h1 := lacking_len old h
    have h2 := lacking_nonneg old (manOf_flen b size)
    omega
  · omega
theorem findFrom_some {b : List Int} {s : Sum} {n : Nat} : ∀ (c i j : Nat), i ≤ j → j < i + c → M.sumOf (M.win b j n) = s → 0 ≤ M.findFrom b s n c i
  | 0, i, j, h1, h2, _ => by omega
  | c + 1, i, j, h1, h2, h3 => by
    unfold M.findFrom
    split
    · omega
    · rename_i hne
      have : i ≠ j := fun h => hne (h ▸ h3)
      exact findFrom_some c (i + 1) j (by omega) (by omega) h3
theorem has_self {b : List Int} {size : Int} (h : M.sizeOk size b.length = true) {i : Nat} (hi : i < (M.manOf 1 b size).fSums.length) : M.has b (M.manOf 1 b size) i = true := by
  rw [manOf_one h] at hi ⊢
  have hs := sizeOk_t h
  unfold M.has M.placeOf
  simp only [decide_eq_true_eq]
  have hi2 : i < (M.blocks size b.length).toNat := by simpa [M.sumsOf] using hi
  have e : (M.sumsOf b size)[i]? = some (M.sumOf (M.blockAt b size (i : Int)).1) := by
    unfold M.sumsOf
    rw [List.getElem?_map, List.getElem?_range hi2]; rfl
  rw [e]
  simp only
  have hw : M.within (i : Int) 0 (M.blocks size b.length - 1) = true := by simp [M.within]; omega
  have hr := spanOf_range (size := size) (n := (b.length : Int)) (i := (i : Int)) (by omega)
  have hpos : 1 ≤ (M.spanOf size b.length (i : Int)).2 := by
    unfold M.spanOf
    rw [if_pos hw]
    simp only
    have hb : M.blocks size b.length = (b.length + size - 1) / size := by unfold M.blocks; rw [if_pos h]
    have h1 : (i : Int) + 1 ≤ (b.length + size - 1) / size := by omega
    have h2 : ((i : Int) + 1) * size ≤ b.length + size - 1 := Int.le_trans (Int.mul_le_mul_of_nonneg_right h1 (by omega)) (Int.ediv_mul_le _ (by omega))
    rw [Int.add_mul] at h2
    omega
  unfold M.findSum
  have hn : M.within (M.spanOf size b.length (i : Int)).2 1 6 = true := by simp [M.within]; omega
  rw [if_pos hn]
  refine findFrom_some _ 0 (M.spanOf size b.length (i : Int)).1.toNat (Nat.zero_le _) (by omega) ?_
  unfold M.blockAt
  simp only
  rw [if_neg (by omega)]
theorem savedBy_self {b : List Int} {size : Int} (h : M.sizeOk size b.length = true) : M.savedBy b b size = b.length := by
  unfold M.savedBy
  rw [if_pos h, lacking_S, S_zero]
  · omega
  · intro i _
    by_cases hi : i < (M.manOf 1 b size).fSums.length
    · rw [has_self h hi]; simp
    · have : decide (i < min (M.manOf 1 b size).fSums.length 40) = false := by simp; omega
      rw [this]; rfl
theorem u8_b (n : Int) : 0 ≤ IntKind.wrap .u8 n ∧ IntKind.wrap .u8 n ≤ 255 := by
  show 0 ≤ n % 256 ∧ n % 256 ≤ 255
  omega
theorem bytes_one (n : Int) : M.isBytes [IntKind.wrap .u8 n] := fun x hx => by
  simp only [List.mem_singleton] at hx
  subst hx
  exact u8_b n
theorem bytes_app {a b : List Int} (ha : M.isBytes a) (hb : M.isBytes b) : M.isBytes (a ++ b) := fun x hx => (List.mem_append.1 hx).elim (ha x) (hb x)
theorem bytes_set {a : List Int} (ha : M.isBytes a) (i : Nat) {v : Int} (hv : 0 ≤ v ∧ v ≤ 255) : M.isBytes (a.set i v) := fun x hx => by
  rcases List.mem_or_eq_of_mem_set hx with h | h
  · exact ha x h
  · subst h; exact hv
theorem bytes_take {a : List Int} (ha : M.isBytes a) (n : Nat) : M.isBytes (a.take n) := fun x hx => ha x (List.mem_of_mem_take hx)
theorem bytes_drop {a : List Int} (ha : M.isBytes a) (n : Nat) : M.isBytes (a.drop n) := fun x hx => ha x (List.mem_of_mem_drop hx)
theorem bytes_nil : M.isBytes [] := fun x hx => by cases hx
def M.img (n : Nat) (b : List Int) : Prop := b.length ≤ n ∧ M.isBytes b
theorem l3Bytes_drB {u : Nat} (hu : 1099511627776 ≤ u) {c : l1Cur} (hc : Cu c) {n : Nat} (hn : n ≤ 1000) : Dr (spec_l3Bytes u c (n : Int)) (M.img n) := by
  unfold spec_l3Bytes
  rw [bAdd_succ (by omega)]
  refine Dr_bind (l1Below_dr u hc _) fun v c1 hv hc1 => ?_
  have hlt := hv.2 (by omega)
  obtain ⟨m, hm⟩ : ∃ m : Nat, v = (m : Int) := ⟨v.toNat, by omega⟩
  subst hm
  have key : ∀ (m k : Nat) (x : List Int) (c : l1Cur), m < k → Cu c → x.length + m ≤ 1000 → M.isBytes x → Dr (spec_l3Bytes_l2 u k x (m : Int) c.fB c.fI c.fH) (M.img (x.length + m)) := by
    intro m
    induction m with
    | zero =>
      intro k x c hk hc hx hb
      obtain ⟨k, rfl⟩ : ∃ j, k = j + 1 := ⟨k - 1, by omega⟩
      unfold spec_l3Bytes_l2
      simp only [Int.natCast_zero, gt_iff_lt, Int.lt_irrefl, decide_false, cond_false, spec_l3Bytes_j1]
      exact Dr_some ⟨Nat.le_refl _, hb⟩ hc
    | succ m ih =>
      intro k x c hk hc hx hb
      obtain ⟨k, rfl⟩ : ∃ j, k = j + 1 := ⟨k - 1, by omega⟩
      unfold spec_l3Bytes_l2
      have : ((m + 1 : Nat) : Int) > 0 := by omega
      simp only [this, decide_true, cond_true]
      refine Dr_bind (l1Int_dr u hc (xs := [97, 98, 99, 0, 255]) (by simp)) fun v c2 hv hc2 => ?_
      rw [chk_dec (by simp; omega)]
      simp only [Option.bind_some]
      rw [bSub_i64 (by omega) (by omega)]
      have e : ((m + 1 : Nat) : Int) - 1 = (m : Int) := by omega
      rw [e]
      refine Dr_mono (ih k _ c2 (by omega) hc2 (by simp; omega) (bytes_app hb (bytes_one _))) fun v h => ?_
      have h1 := h.1
      simp only [List.length_append, List.length_cons, List.length_nil] at h1
      exact ⟨by omega, h.2⟩
  refine Dr_mono (key m u [] c1 (by omega) hc1 (by simp; omega) bytes_nil) fun v h => ?_
  have h1 := h.1
  simp only [List.length_nil] at h1
  exact ⟨by omega, h.2⟩
theorem l6Image_dr {u : Nat} (hu : 1099511627776 ≤ u) {c : l1Cur} (hc : Cu c) : Dr (spec_l6Image u c) (M.img 16) := by
  unfold spec_l6Image
  exact Dr_bind (l3Bytes_drB hu hc (n := 16) (by omega)) fun v c1 hv hc1 => Dr_some hv hc1
theorem l1Bent_drB (u : Nat) {c : l1Cur} (hc : Cu c) {b : List Int} (hb : b.length ≤ 200) (hB : M.isBytes b) : Dr (spec_l1Bent u c b) (M.img 201) := by
  unfold spec_l1Bent
  rw [chk_dec (by simp; omega)]
  simp only [Option.bind_some, List.nil_append]
  have hlt : ∀ {v : Int}, 0 ≤ v → v < (b.length : Int) → ∃ y, idx b v = some y := fun {v} h0 h1 => by
    obtain ⟨i, rfl⟩ : ∃ i : Nat, v = (i : Int) := ⟨v.toNat, by omega⟩
    exact ⟨b[i]'(by omega), by rw [idx_nat]; exact List.getElem?_eq_getElem (by omega)⟩
  have self : M.img 201 b := ⟨by omega, hB⟩
  refine Dr_bind (l1Below_dr u hc 6) fun n c1 _ h1 => ?_
  simp only
  cases n == 0 with
  | true =>
    simp only [cond_true]
    by_cases hl : (b.length : Int) > 0
    · simp only [hl, decide_true, cond_true]
      refine Dr_bind (l1Below_dr u h1 _) fun v c2 hv h2 => ?_
      refine Dr_bind (l1Below_dr u h2 256) fun w c3 _ h3 => ?_
      obtain ⟨y, hy⟩ := hlt hv.1 (hv.2 hl)
      simp only [hy, Option.bind_some, spec_l1Bent_j1]
      exact Dr_some ⟨by rw [List.length_set]; omega, bytes_set hB _ (u8_b _)⟩ h3
    · simp only [hl, decide_false, cond_false, spec_l1Bent_j1]
      exact Dr_some self h1
  | false =>
    simp only [cond_false]
    cases n == 1 with
    | true =>
      simp only [cond_true]
      rw [bAdd_succ (by omega)]
      refine Dr_bind (l1Below_dr u h1 _) fun v c2 hv h2 => ?_
      have h3 := hv.2 (by omega)
      have hs : sliceOK 0 v (b.length : Int) = true := by simp [sliceOK]; omega
      simp only [hs, chk_true, Option.bind_some, spec_l1Bent_j1]
      exact Dr_some ⟨by rw [List.length_drop, List.length_take]; omega, bytes_drop (bytes_take hB _) _⟩ h2
    | false =>
      simp only [cond_false]
      cases n == 2 with
      | true =>
        simp only [cond_true]
        refine Dr_bind (l1Int_dr u h1 (by simp)) fun v c2 _ h2 => ?_
        rw [chk_dec (by simp; omega)]
        simp only [Option.bind_some, spec_l1Bent_j1]
        exact Dr_some ⟨by rw [List.length_append, List.length_singleton]; omega, bytes_app hB (bytes_one _)⟩ h2
      | false =>
        simp only [cond_false]
        cases n == 3 with
        | true =>
          simp only [cond_true]
          by_cases hl : (b.length : Int) > 0
          · simp only [hl, decide_true, cond_true]
            refine Dr_bind (l1Below_dr u h1 _) fun v c2 hv h2 => ?_
            obtain ⟨y, hy⟩ := hlt hv.1 (hv.2 hl)
            simp only [hy, Option.bind_some]
            refine Dr_bind (l1Below_dr u h2 8) fun w c3 hw h3 => ?_
            have hw0 := hw.1
            simp only [hy]
            rw [chk_dec hw0]
            simp only [Option.bind_some, spec_l1Bent_j1]
            exact Dr_some ⟨by rw [List.length_set]; omega, bytes_set hB _ (by unfold bXor; exact u8_b _)⟩ h3
          · simp only [hl, decide_false, cond_false, spec_l1Bent_j1]
            exact Dr_some self h1
        | false =>
          simp only [cond_false, spec_l1Bent_j1]
          exact Dr_some self h1
theorem l7Old_dr {u : Nat} (hu : 1099511627776 ≤ u) {c : l1Cur} (hc : Cu c) {b : List Int} (hb : b.length ≤ 200) (hB : M.isBytes b) : Dr (spec_l7Old u c b) (M.img 300) := by
  unfold spec_l7Old
  refine Dr_bind (l1Below_dr u hc 5) fun n c1 _ h1 => ?_
  simp only
  cases n == 0 with
  | true =>
    simp only [cond_true]
    exact Dr_bind (l3Bytes_drB hu h1 (n := 16) (by omega)) fun v c2 hv h2 => Dr_some ⟨Nat.le_trans hv.1 (by omega), hv.2⟩ h2
  | false =>
    simp only [cond_false]
    cases n == 1 with
    | true =>
      simp only [cond_true]
      rw [chk_dec (by simp; omega)]
      simp only [Option.bind_some, List.nil_append]
      exact Dr_some ⟨by omega, hB⟩ h1
    | false =>
      simp only [cond_false]
      cases n == 2 with
      | true =>
        simp only [cond_true]
        rw [bAdd_succ (by omega)]
        refine Dr_bind (l1Below_dr u h1 _) fun v c2 hv h2 => ?_
        have h3 := hv.2 (by omega)
        have h0 := hv.1
        have s1 : sliceOK v (b.length : Int) (b.length : Int) = true := by simp [sliceOK]; omega
        have s2 : sliceOK 0 v (b.length : Int) = true := by simp [sliceOK]; omega
        simp only [s1, s2, chk_true, Option.bind_some]
        rw [chk_dec (by simp; omega)]
        simp only [Option.bind_some]
        rw [chk_dec (by simp; omega)]
        simp only [Option.bind_some]
        refine Dr_some ⟨by simp; omega, bytes_app (bytes_app (fun x hx => ?_) (bytes_drop (bytes_take hB _) _)) (bytes_drop (bytes_take hB _) _)⟩ h2
        simp only [List.mem_singleton] at hx
        omega
      | false =>
        simp only [cond_false]
        cases n == 3 with
        | true =>
          simp only [cond_true]
          exact Dr_some ⟨by simp, bytes_nil⟩ h1
        | false =>
          simp only [cond_false]
          refine Dr_bind (l3Bytes_drB hu h1 (n := 3) (by omega)) fun v c2 hv h2 => ?_
          refine Dr_bind (l1Bent_drB u h2 hb hB) fun w c3 hw h3 => ?_
          have hv1 := hv.1
          have hw1 := hw.1
          simp only
          rw [chk_dec (by omega)]
          simp only [Option.bind_some]
          exact Dr_some ⟨by rw [List.length_append]; omega, bytes_app hv.2 hw.2⟩ h3
def M.num (n : Int) : ByteArray := ⟨(Lib.itoa n).toArray⟩
theorem num_size {n : Int} (h0 : -9223372036854775808 ≤ n) (h1 : n ≤ 9223372036854775807) : (M.num n).size ≤ 21 := by
  have := Lib.itoa_length_le n h0 h1
  simpa [M.num, ByteArray.size] using this
theorem itoa_eq {u : Nat} {n : Int} (h0 : -9223372036854775808 ≤ n) (h1 : n ≤ 9223372036854775807) : strconv_Itoa u n = some (M.num n) := by
  unfold strconv_Itoa M.num
  simp [h0, h1]
theorem impl_NumText_eq {u : Nat} {n : Int} (h0 : -9223372036854775808 ≤ n) (h1 : n ≤ 9223372036854775807) : impl_NumText u n = some (M.num n) := by
  unfold impl_NumText
  rw [itoa_eq h0 h1]; rfl
def M.dg (m : Nat) : List UInt8 := if m = 0 then [] else Lib.decDigits m
theorem dg_step {m : Nat} (h : m ≠ 0) : M.dg m = M.dg (m / 10) ++ [UInt8.ofNat (48 + m % 10)] := by
  unfold M.dg
  rw [if_neg h, Lib.decDigits]
  by_cases h10 : m < 10
  · rw [dif_pos h10, if_pos (by omega), Nat.mod_eq_of_lt h10]; rfl
  · rw [dif_neg h10, if_neg (by omega)]
theorem byte_dig (d : Nat) (h : d < 10) : strOfNums [IntKind.wrap .u8 (bAdd .i64 48 (d : Int))] = ByteArray.mk #[UInt8.ofNat (48 + d)] := by
  have : ∀ d : Fin 10, strOfNums [IntKind.wrap .u8 (bAdd .i64 48 (d.val : Int))] = ByteArray.mk #[UInt8.ofNat (48 + d.val)] := by decide
  exact this ⟨d, h⟩
theorem ba_ext {a b : ByteArray} (h : a.data.toList = b.data.toList) : a = b := by
  cases a; cases b
  congr
  exact Array.toList_inj.1 h
theorem ba_app (a b : ByteArray) : (a ++ b).data.toList = a.data.toList ++ b.data.toList := by
  rw [ByteArray.data_append]; simp
theorem num_l2 {u : Nat} (p0 : Int) (sg : Int) (hs : sg = 1 ∨ sg = -1) : ∀ (j m k : Nat) (acc : ByteArray), m < 10 ^ j → m ≤ 9223372036854775808 → (sg = 1 → m ≤ 9223372036854775807) → j < k → acc.size + j ≤ 1000 →
    spec_NumText_l2 u k p0 acc (sg * m) = spec_NumText_j1 u p0 (ByteArray.mk (M.dg m).toArray ++ acc) := by
  have hnil : ∀ acc : ByteArray, ByteArray.mk (M.dg 0).toArray ++ acc = acc := fun acc => ba_ext (by rw [ba_app]; rfl)
  intro j
  induction j with
  | zero =>
    intro m k acc hm _ _ hk _
    obtain rfl : m = 0 := by simpa using hm
    obtain ⟨k, rfl⟩ : ∃ k', k = k' + 1 := ⟨k - 1, by omega⟩
    unfold spec_NumText_l2
    rw [hnil]
    simp
  | succ j ih =>
    intro m k acc hm hr hr1 hk ha
    obtain ⟨k, rfl⟩ : ∃ k', k = k' + 1 := ⟨k - 1, by omega⟩
    by_cases h0 : m = 0
    · subst h0
      unfold spec_NumText_l2
      rw [hnil]
      simp
    have hd : m % 10 < 10 := Nat.mod_lt _ (by omega)
    have hq : bQuo .i64 (sg * (m : Int)) 10 = sg * ((m / 10 : Nat) : Int) := by
      have e : (sg * (m : Int)).tdiv 10 = sg * ((m / 10 : Nat) : Int) := by
        rcases hs with rfl | rfl
        · rw [Int.one_mul, Int.one_mul]; rfl
        · rw [Int.neg_mul, Int.one_mul, Int.neg_mul, Int.one_mul, Int.neg_tdiv]; rfl
      unfold bQuo
      rw [e, wrap_i64] <;> rcases hs with rfl | rfl <;> omega
    have hrm : bRem .i64 (sg * (m : Int)) 10 = sg * ((m % 10 : Nat) : Int) := by
      unfold bRem
      rcases hs with rfl | rfl
      · rw [Int.one_mul, Int.one_mul]; rfl
      · rw [Int.neg_mul, Int.one_mul, Int.neg_mul, Int.one_mul, Int.neg_tmod]; rfl
    have hj3 : spec_NumText_j3 u (fun z0 z1 z2 => spec_NumText_l2 u k z0 z1 z2) p0 acc (sg * (m : Int)) ((m % 10 : Nat) : Int) = spec_NumText_j1 u p0 (ByteArray.mk (M.dg m).toArray ++ acc) := by
      unfold spec_NumText_j3
      rw [byte_dig _ hd, hq]
      have hsz : (ByteArray.mk #[UInt8.ofNat (48 + m % 10)]).size = 1 := rfl
      have hc : decide ((ByteArray.mk #[UInt8.ofNat (48 + m % 10)]).size + acc.size ≤ 9223372036854775807) = true := by rw [hsz]; simp; omega
      rw [hc]
      simp only [chk, if_true, Option.bind_some]
      rw [ih (m / 10) k _ (by rw [Nat.pow_succ] at hm; omega) (by omega) (fun _ => by omega) (by omega) (by rw [ByteArray.size_append, hsz]; omega)]
      congr 1
      refine ba_ext ?_
      rw [ba_app, ba_app, ba_app, dg_step h0]
      simp
    unfold spec_NumText_l2
    have hne : (sg * (m : Int) != 0) = true := by rcases hs with rfl | rfl <;> simp <;> omega
    rw [hne, cond_true, hrm]
    by_cases hneg : sg * ((m % 10 : Nat) : Int) < 0
    · rw [decide_eq_true hneg, cond_true]
      have : bSub .i64 0 (sg * ((m % 10 : Nat) : Int)) = ((m % 10 : Nat) : Int) := by
        rw [bSub_i64] <;> rcases hs with rfl | rfl <;> omega
      rw [this]
      exact hj3
    · rw [decide_eq_false hneg, cond_false]
      have : sg * ((m % 10 : Nat) : Int) = ((m % 10 : Nat) : Int) := by rcases hs with rfl | rfl <;> omega
      rw [this]
      exact hj3
theorem spec_NumText_eq {u : Nat} (hu : 1099511627776 ≤ u) {n : Int} (h0 : -9223372036854775808 ≤ n) (h1 : n ≤ 9223372036854775807) : spec_NumText u n = some (M.num n) := by
  unfold spec_NumText
  by_cases hz : n = 0
  · subst hz
    have : M.num 0 = ByteArray.mk #[48] := by
      unfold M.num Lib.itoa
      rw [if_neg (by omega), show (0 : Int).toNat = 0 by rfl, Lib.decDigits_one (by omega)]
      rfl
    rw [this]; rfl
  rw [beq_eq_false_iff_ne.2 hz, cond_false]
  rcases Int.lt_or_lt_of_ne hz with hl | hl
  · obtain ⟨m, rfl⟩ : ∃ m : Nat, n = -1 * (m : Int) := ⟨n.natAbs, by omega⟩
    rw [num_l2 (-1 * (m : Int)) (-1) (.inr rfl) 19 m u _ (by omega) (by omega) (fun h => by omega) (by omega) (by show 0 + 19 ≤ 1000; omega)]
    unfold spec_NumText_j1
    rw [decide_eq_true hl, cond_true]
    have hm0 : m ≠ 0 := by omega
    have hd : M.dg m = Lib.decDigits m := by unfold M.dg; rw [if_neg hm0]
    have hsz : (ByteArray.mk (M.dg m).toArray ++ ByteArray.mk #[]).size ≤ 21 := by
      have := num_size h0 h1
      have e : M.num (-1 * (m : Int)) = ByteArray.mk (45 :: Lib.decDigits m).toArray := by
        unfold M.num; rw [show (-1 * (m : Int)) = -(m : Int) by omega, Lib.itoa_neg m (by omega)]
      rw [e] at this
      rw [hd, ByteArray.size_append]
      simp only [ByteArray.size, List.size_toArray, List.length_cons] at this ⊢
      simp; omega
    have hc : decide ((ByteArray.mk #[45]).size + (ByteArray.mk (M.dg m).toArray ++ ByteArray.mk #[]).size ≤ 9223372036854775807) = true := by
      have : (ByteArray.mk #[45]).size = 1 := rfl
      rw [this]; simp only [decide_eq_true_eq]; omega
    rw [hc]
    simp only [chk, if_true, Option.bind_some, Option.some.injEq]
    refine ba_ext ?_
    rw [ba_app, ba_app, hd]
    unfold M.num
    rw [show (-1 * (m : Int)) = -(m : Int) by omega, Lib.itoa_neg m (by omega)]
    simp
  · obtain ⟨m, rfl⟩ : ∃ m : Nat, n = 1 * (m : Int) := ⟨n.toNat, by omega⟩
    rw [num_l2 (1 * (m : Int)) 1 (.inl rfl) 19 m u _ (by omega) (by omega) (fun h => by omega) (by omega) (by show 0 + 19 ≤ 1000; omega)]
    unfold spec_NumText_j1
    rw [decide_eq_false (by omega), cond_false]
    have hm0 : m ≠ 0 := by omega
    congr 1
    refine ba_ext ?_
    rw [ba_app]
    unfold M.num M.dg
    rw [if_neg hm0, Int.one_mul, Lib.itoa_nonneg]
    simp
theorem idx_lit {α : Type} (l : List α) (k : Nat) {v : α} (h : l[k]? = some v) : idx l (k : Int) = some v := by
  unfold idx
  simp [h]
theorem chk_of {p : Prop} [Decidable p] (h : p) : chk (decide p) = some () := by rw [decide_eq_true h]; rfl
theorem sz1 (a : UInt8) : (ByteArray.mk #[a]).size = 1 := rfl
def M.acc (sep : ByteArray) : Nat → ByteArray → List ByteArray → ByteArray
  | _, s, [] => s
  | i, s, t :: ts => M.acc sep (i + 1) ((if i > 0 then s ++ sep else s) ++ t) ts
def M.jn (sep : ByteArray) (ts : List ByteArray) : ByteArray := ⟨(Lib.join (ts.map (·.data.toList)) sep.data.toList).toArray⟩
theorem acc_pos (sep : ByteArray) : ∀ (ts : List ByteArray) (i : Nat) (s : ByteArray), (M.acc sep (i + 1) s ts).data.toList = s.data.toList ++ Lib.joinTail sep.data.toList (ts.map (·.data.toList))
  | [], i, s => by simp [M.acc, Lib.joinTail]
  | t :: ts, i, s => by
    rw [M.acc, acc_pos sep ts, if_pos (by omega), ba_app, ba_app]
    simp [Lib.joinTail]
theorem acc_jn (sep : ByteArray) (ts : List ByteArray) : M.acc sep 0 (ByteArray.mk #[]) ts = M.jn sep ts := by
  refine ba_ext ?_
  unfold M.jn
  cases ts with
  | nil => rfl
  | cons t ts =>
    rw [M.acc, acc_pos, if_neg (by omega), ba_app, List.map_cons, Lib.join_cons]
    simp
theorem sep_size {sep s : ByteArray} {i : Nat} (hs : sep.size ≤ 2) : (if i > 0 then s ++ sep else s).size ≤ s.size + 2 := by
  split
  · rw [ByteArray.size_append]; omega
  · omega
theorem acc_size (sep : ByteArray) {B : Nat} (hs : sep.size ≤ 2) : ∀ (ts : List ByteArray) (i : Nat) (s : ByteArray), (∀ t ∈ ts, t.size ≤ B) → (M.acc sep i s ts).size ≤ s.size + ts.length * (B + 2)
  | [], i, s, _ => by simp [M.acc]
  | t :: ts, i, s, h => by
    have h1 := acc_size sep hs ts (i + 1) ((if i > 0 then s ++ sep else s) ++ t) (fun t ht => h t (by simp [ht]))
    have h2 := h t (by simp)
    rw [ByteArray.size_append] at h1
    have h3 : (if i > 0 then s ++ sep else s).size ≤ s.size + 2 := sep_size hs
    rw [M.acc, List.length_cons, Nat.add_mul]
    omega
theorem jn_size {sep : ByteArray} {B : Nat} (hs : sep.size ≤ 2) {ts : List ByteArray} (h : ∀ t ∈ ts, t.size ≤ B) : (M.jn sep ts).size ≤ ts.length * (B + 2) := by
  rw [← acc_jn]
  have := acc_size sep hs ts 0 (ByteArray.mk #[]) h
  rw [show (ByteArray.mk #[]).size = 0 by rfl] at this
  omega
theorem join_eq {u : Nat} {sep : ByteArray} {B : Nat} (hs : sep.size ≤ 2) {ts : List ByteArray} (h : ∀ t ∈ ts, t.size ≤ B) (hl : ts.length ≤ 2097152) (hB : B ≤ 1000) : strings_Join u ts sep = some (M.jn sep ts) := by
  have h1 := jn_size hs h
  have h2 : ts.length * (B + 2) ≤ 2097152 * 1002 := Nat.mul_le_mul hl (by omega)
  have h3 : (Lib.join (ts.map (·.data.toList)) sep.data.toList).length ≤ 140737488355328 := by
    have e : (M.jn sep ts).size = (Lib.join (ts.map (·.data.toList)) sep.data.toList).length := by simp [M.jn, ByteArray.size]
    omega
  unfold strings_Join
  rw [decide_eq_true h3, decide_eq_true (show ts.length ≤ 140737488355328 by omega)]
  rfl
theorem wlist_map {α ρ : Type} {f : List ByteArray → Option ρ} {b : α → Nat → List ByteArray → (List ByteArray → Option ρ) → Option ρ} {g : α → ByteArray} : ∀ (l : List α) (i : Nat) (s : List ByteArray),
    (∀ y ∈ l, ∀ (i : Nat) (s : List ByteArray) (k : List ByteArray → Option ρ), s.length ≤ 2097152 → b y i s k = k (s ++ [g y])) → s.length + l.length ≤ 2097152 → wlist f b l i s = f (s ++ l.map g)
  | [], i, s, _, _ => by simp [wlist]
  | y :: l, i, s, h, hl => by
    rw [List.length_cons] at hl
    rw [wlist, h y (by simp) i s _ (by omega), wlist_map l (i + 1) _ (fun y hy => h y (by simp [hy])) (by rw [List.length_append, List.length_singleton]; omega)]
    simp
theorem chk_row (s : List ByteArray) (t : ByteArray) (h : s.length ≤ 2097152) : chk (decide ((s.length + ([t]).length) * 16 ≤ 140737488355328)) = some () := chk_of (by rw [List.length_singleton]; omega)
def M.ints (l : List Int) : Prop := ∀ n ∈ l, -9223372036854775808 ≤ n ∧ n ≤ 9223372036854775807
def M.numsText (l : List Int) : ByteArray := M.jn (ByteArray.mk #[32]) (l.map M.num)
theorem nums_21 {l : List Int} (h : M.ints l) : ∀ t ∈ l.map M.num, t.size ≤ 21 := fun t ht => by
  obtain ⟨n, hn, rfl⟩ := List.mem_map.1 ht
  exact num_size (h n hn).1 (h n hn).2
theorem impl_joined_eq {u : Nat} (hu : 1099511627776 ≤ u) {l : List Int} (h : M.ints l) (hl : l.length ≤ 2097152) : impl_joined u l = some (M.numsText l) := by
  unfold impl_joined
  rw [impl_joined_l2_w u l _ u (by omega) (by omega), wlist_map (g := M.num) l 0 []]
  · unfold impl_joined_l2_f impl_joined_j1
    rw [join_eq (B := 21) (by rw [sz1]; omega) (by simpa using nums_21 h) (by simpa using hl) (by omega)]
    simp [M.numsText]
  · intro y hy i s k hs
    unfold impl_joined_l2_b
    rw [impl_NumText_eq (h y hy).1 (h y hy).2, Option.bind_some, chk_row s _ hs]
    rfl
  · simpa using hl
def M.sp : ByteArray := ByteArray.mk #[32]
theorem sp_size : M.sp.size = 1 := rfl
theorem cost_b (b : List Int) {old : List Image} (hol : old.length ≤ 1048576) (n : Int) : -9223372036854775808 ≤ M.costOf b old n ∧ M.costOf b old n ≤ 9223372036854775807 := by
  unfold M.costOf
  split
  · have := costs_range (M.manOf 1 b n) old 0
    omega
  · omega
theorem impl_cost_step {u : Nat} {b : List Int} {old : List Image} {v : Int} {i : Nat} (h : impl_CostOf u b old (i : Int) = some v) (hi : i ≤ 6) (k : Nat) (l : List Int) (hl : l.length ≤ 10) :
    impl_CostTable_l2 u (k + 1) b old l (i : Int) = impl_CostTable_l2 u k b old (l ++ [v]) ((i + 1 : Nat) : Int) := by
  have hd : (i : Int) ≤ 6 := by omega
  have ha : bAdd .i64 (i : Int) 1 = ((i + 1 : Nat) : Int) := by rw [bAdd_i64 (by omega) (by omega)]; omega
  conv => lhs; unfold impl_CostTable_l2
  rw [decide_eq_true hd, cond_true, h, Option.bind_some, chk_of (by rw [List.length_singleton]; omega), Option.bind_some, ha]
theorem spec_cost_step {u : Nat} (hu : 1099511627776 ≤ u) {b : List Int} {old : List Image} {v : Int} {i : Nat} (h : spec_CostOf u b old (i : Int) = some v) (hv : -9223372036854775808 ≤ v ∧ v ≤ 9223372036854775807) (hi : i ≤ 6) (k : Nat) (s : ByteArray) (hs : s.size ≤ 1000) :
    spec_CostTable_l2 u (k + 1) b old s (i : Int) = spec_CostTable_l2 u k b old ((if i > 2 then s ++ M.sp else s) ++ M.num v) ((i + 1 : Nat) : Int) := by
  have hd : (i : Int) ≤ 6 := by omega
  have ha : bAdd .i64 (i : Int) 1 = ((i + 1 : Nat) : Int) := by rw [bAdd_i64 (by omega) (by omega)]; omega
  have hz := num_size hv.1 hv.2
  have hj : ∀ s : ByteArray, s.size ≤ 2000 → spec_CostTable_j3 u (fun z0 z1 z2 z3 => spec_CostTable_l2 u k z0 z1 z2 z3) b old s (i : Int) = spec_CostTable_l2 u k b old (s ++ M.num v) ((i + 1 : Nat) : Int) := fun s hs => by
    unfold spec_CostTable_j3
    rw [h, Option.bind_some, spec_NumText_eq hu hv.1 hv.2, Option.bind_some, chk_of (by omega), Option.bind_some, ha]
  conv => lhs; unfold spec_CostTable_l2
  rw [decide_eq_true hd, cond_true]
  by_cases h2 : i > 2
  · have h2' : (i : Int) > 2 := by omega
    rw [decide_eq_true h2', cond_true, if_pos h2, chk_of (by rw [sz1]; omega), Option.bind_some, hj _ (by rw [ByteArray.size_append, sz1]; omega)]
    rfl
  · have h2' : ¬ (i : Int) > 2 := by omega
    rw [decide_eq_false h2', cond_false, if_neg h2, hj _ (by omega)]
theorem CostTable_eqB {u : Nat} (hu : 1099511627776 ≤ u) {p0 : List Int} {p1 : List Image} (w0 : M.isBytes p0) (w1 : M.imgsOk p1) (b0 : p0.length ≤ 1048576) (hl : p1.length ≤ 1048576) : ∃ v, spec_CostTable u p0 p1 = some v ∧ impl_CostTable u p0 p1 = some v := by
  have hS : ∀ n : Int, spec_CostOf u p0 p1 n = some (M.costOf p0 p1 n) := fun n => spec_CostOf_eq hu w0 (by omega) w1 hl n
  have hI : ∀ n : Int, impl_CostOf u p0 p1 n = some (M.costOf p0 p1 n) := fun n => impl_CostOf_eq hu w0 (by omega) w1 hl n
  have hB : ∀ n : Int, -9223372036854775808 ≤ M.costOf p0 p1 n ∧ M.costOf p0 p1 n ≤ 9223372036854775807 := cost_b p0 hl
  have hZ : ∀ n : Int, (M.num (M.costOf p0 p1 n)).size ≤ 21 := fun n => num_size (hB n).1 (hB n).2
  obtain ⟨k, hk⟩ : ∃ k, u = k + 6 := ⟨u - 6, by omega⟩
  have hi : M.ints [M.costOf p0 p1 (2 : Nat), M.costOf p0 p1 (3 : Nat), M.costOf p0 p1 (4 : Nat), M.costOf p0 p1 (5 : Nat), M.costOf p0 p1 (6 : Nat)] := by
    intro n hn
    simp only [List.mem_cons, List.not_mem_nil, or_false] at hn
    rcases hn with rfl | rfl | rfl | rfl | rfl <;> exact hB _
  refine ⟨M.numsText [M.costOf p0 p1 (2 : Nat), M.costOf p0 p1 (3 : Nat), M.costOf p0 p1 (4 : Nat), M.costOf p0 p1 (5 : Nat), M.costOf p0 p1 (6 : Nat)], ?_, ?_⟩
  · unfold spec_CostTable
    have e : spec_CostTable_l2 u u p0 p1 (ByteArray.mk #[]) 2 = spec_CostTable_l2 u (k + 6) p0 p1 (ByteArray.mk #[]) ((2 : Nat) : Int) := by rw [← hk]; rfl
    have s2 := hZ (2 : Nat); have s3 := hZ (3 : Nat); have s4 := hZ (4 : Nat); have s5 := hZ (5 : Nat); have s6 := hZ (6 : Nat)
    rw [e, spec_cost_step hu (hS _) (hB _) (by omega) _ _ (Nat.zero_le _), spec_cost_step hu (hS _) (hB _) (by omega), spec_cost_step hu (hS _) (hB _) (by omega), spec_cost_step hu (hS _) (hB _) (by omega), spec_cost_step hu (hS _) (hB _) (by omega)]
    · unfold M.numsText
      rw [← acc_jn]
      rfl
    all_goals
      simp only [Nat.reduceAdd, Nat.reduceLT, Nat.lt_irrefl, gt_iff_lt, if_true, if_false, ByteArray.size_append, sp_size]
      have : (ByteArray.mk #[]).size = 0 := rfl
      omega
  · unfold impl_CostTable
    have e : impl_CostTable_l2 u u p0 p1 [] 2 = impl_CostTable_l2 u (k + 6) p0 p1 [] ((2 : Nat) : Int) := by rw [← hk]; rfl
    rw [e, impl_cost_step (hI _) (by omega) _ _ (by simp), impl_cost_step (hI _) (by omega) _ _ (by simp), impl_cost_step (hI _) (by omega) _ _ (by simp), impl_cost_step (hI _) (by omega) _ _ (by simp), impl_cost_step (hI _) (by omega) _ _ (by simp)]
    show (impl_joined u [M.costOf p0 p1 (2 : Nat), M.costOf p0 p1 (3 : Nat), M.costOf p0 p1 (4 : Nat), M.costOf p0 p1 (5 : Nat), M.costOf p0 p1 (6 : Nat)]).bind (fun r9 => some r9) = _
    rw [impl_joined_eq hu hi (by simp)]
    rfl
theorem impl_BestSize_eqB {u : Nat} (hu : 1099511627776 ≤ u) {b : List Int} (hb : M.isBytes b) (hl : b.length ≤ 1048576) {old : List Image} (ho : M.imgsOk old) (hol : old.length ≤ 1048576) : impl_BestSize u b old = some ((M.bestFrom b old 5 2 0 : Nat) : Int) :=
  impl_BestSize_l2_eq hu hb (by omega) ho hol 5 u 2 0 (-1) (by omega) (by omega) (.inl rfl)
theorem spec_BestSize_eqB {u : Nat} (hu : 1099511627776 ≤ u) {b : List Int} (hb : M.isBytes b) (hl : b.length ≤ 1048576) {old : List Image} (ho : M.imgsOk old) (hol : old.length ≤ 1048576) : spec_BestSize u b old = some ((M.bestFrom b old 5 2 0 : Nat) : Int) :=
  spec_BestSize_l2_eq hu hb (by omega) ho hol 5 u 2 0 (by omega) (by omega)
theorem l27Olds_dr {u : Nat} (hu : 1099511627776 ≤ u) {c : l1Cur} (hc : Cu c) : ∃ b l c2, spec_l27Olds u c = some (b, l, c2) ∧ M.img 200 b ∧ (l.length ≤ 3 ∧ M.imgsOk l) ∧ Cu c2 := by
  unfold spec_l27Olds
  obtain ⟨b, c1, e1, hb, h1⟩ := l6Image_dr hu hc
  obtain ⟨n, c2, e2, hn, h2⟩ := l1Below_dr u h1 4
  rw [e1]
  simp only [Option.bind_some, e2]
  have hlt := hn.2 (by omega)
  obtain ⟨m, hm⟩ : ∃ m : Nat, n = (m : Int) := ⟨n.toNat, by omega⟩
  subst hm
  have key : ∀ (m k : Nat) (l : List Image) (c : l1Cur), m < k → Cu c → l.length + m ≤ 3 → M.imgsOk l → ∃ b2 l2 c2, spec_l27Olds_l3 u k (b, c1) l (m : Int) c.fB c.fI c.fH = some (b2, l2, c2) ∧ M.img 200 b2 ∧ (l2.length ≤ 3 ∧ M.imgsOk l2) ∧ Cu c2 := by
    intro m
    induction m with
    | zero =>
      intro k l c hk hc hl hi
      obtain ⟨k, rfl⟩ : ∃ j, k = j + 1 := ⟨k - 1, by omega⟩
      unfold spec_l27Olds_l3
      simp only [Int.natCast_zero, gt_iff_lt, Int.lt_irrefl, decide_false, cond_false, spec_l27Olds_j1]
      obtain ⟨o, c3, e3, _, h3⟩ := l1Once_dr u hc 12
      rw [show spec_l1Once u (l1Cur.mk c.fB c.fI c.fH) 12 = _ from e3]
      simp only [Option.bind_some]
      cases o with
      | false => exact ⟨_, _, _, rfl, ⟨by have := hb.1; omega, hb.2⟩, ⟨by omega, hi⟩, h3⟩
      | true =>
        obtain ⟨v, c4, e4, hv, h4⟩ := l1Below_dr u h3 90
        have hv2 := hv.2 (by omega)
        have hv1 := hv.1
        simp only [cond_true, e4, Option.bind_some]
        have hX : bAdd .i64 80 v = 80 + v := bAdd_i64 (by omega) (by omega)
        rw [hX]
        have hc1 : (decide (0 ≤ 80 + v) && ((80 + v == 0) || (80 + v == 80 + v))) = true := by simp; omega
        rw [hc1]
        simp only [chk_true, Option.bind_some]
        rw [chk_dec (by omega)]
        simp only [Option.bind_some, spec_l27Olds_j2]
        exact ⟨_, _, _, rfl, ⟨by rw [List.length_replicate]; omega, fun x hx => by have := List.eq_of_mem_replicate hx; omega⟩, ⟨by omega, hi⟩, h4⟩
    | succ m ih =>
      intro k l c hk hc hl hi
      obtain ⟨k, rfl⟩ : ∃ j, k = j + 1 := ⟨k - 1, by omega⟩
      unfold spec_l27Olds_l3
      have : ((m + 1 : Nat) : Int) > 0 := by omega
      simp only [this, decide_true, cond_true]
      obtain ⟨x, c3, e3, hx, h3⟩ := l7Old_dr hu hc (b := b) (by have := hb.1; omega) hb.2
      rw [show spec_l7Old u (l1Cur.mk c.fB c.fI c.fH) b = _ from e3]
      simp only [Option.bind_some]
      rw [chk_dec (by simp; omega)]
      simp only [Option.bind_some]
      rw [bSub_i64 (by omega) (by omega), show ((m + 1 : Nat) : Int) - 1 = (m : Int) by omega]
      refine ih k _ c3 (by omega) h3 (by simp; omega) fun y hy => ?_
      rcases List.mem_append.1 hy with h | h
      · exact hi y h
      · simp only [List.mem_singleton] at h
        subst h
        exact ⟨hx.2, by have := hx.1; simp only; omega⟩
  exact key m u [] c2 (by omega) h2 (by simp; omega) (fun x hx => by cases hx)
theorem l4Size_dr (u : Nat) {c : l1Cur} (hc : Cu c) : Dr (spec_l4Size u c) (fun _ => True) := by
  unfold spec_l4Size
  refine Dr_bind (l1Once_dr u hc 8) fun o c1 _ h1 => ?_
  cases o with
  | true =>
    simp only [cond_true]
    exact Dr_bind (l1Int_dr u h1 (by simp)) fun v c2 _ h2 => Dr_some trivial h2
  | false =>
    simp only [cond_false]
    exact Dr_bind (l1Below_dr u h1 5) fun v c2 _ h2 => Dr_some trivial h2
theorem l6Any_dr {u : Nat} (hu : 1099511627776 ≤ u) {c : l1Cur} (hc : Cu c) : Dr (spec_l6Any u c) (fun m => m.fSums.length ≤ 41 ∧ M.manWf m) := by
  unfold spec_l6Any spec_l6Draw
  obtain ⟨b, c1, e1, hb, h1⟩ := l6Image_dr hu hc
  obtain ⟨n, c2, e2, _, h2⟩ := l1Below_dr u h1 5
  obtain ⟨s, c3, e3, _, h3⟩ := l1Below_dr u h2 5
  have hb1 := hb.1
  rw [e1]
  simp only [Option.bind_some, e2, e3]
  rw [spec_ManOf_eq hu hb.2 (by omega)]
  simp only [Option.bind_some]
  generalize hm : M.manOf (bAdd .i64 1 n) b (bAdd .i64 2 s) = m
  have hl : m.fSums.length ≤ 40 := hm ▸ manOf_len _ _ _
  have hw : M.manWf m := hm ▸ manOf_wf _ b _ hb.2
  refine Dr_bind (l1Below_dr u h3 10) fun v c4 _ h4 => ?_
  simp only
  cases v == 0 with
  | true =>
    simp only [cond_true]
    exact Dr_bind (l1Int_dr u h4 (by simp)) fun x c5 _ h5 => Dr_some ⟨by show m.fSums.length ≤ 41; omega, hw⟩ h5
  | false =>
    simp only [cond_false]
    cases v == 1 with
    | true =>
      simp only [cond_true]
      exact Dr_bind (l1Int_dr u h4 (by simp)) fun x c5 _ h5 => Dr_some ⟨by show m.fSums.length ≤ 41; omega, hw⟩ h5
    | false =>
      simp only [cond_false]
      cases v == 2 with
      | true => exact Dr_some ⟨by show m.fSums.length ≤ 41; omega, hw⟩ h4
      | false =>
        simp only [cond_false]
        cases v == 3 with
        | true =>
          simp only [cond_true]
          rw [chk_dec (by simp; omega)]
          simp only [Option.bind_some]
          refine Dr_some ⟨by show (m.fSums ++ [Sum.mk 1 257]).length ≤ 41; simp; omega, fun x hx => ?_⟩ h4
          rcases List.mem_append.1 hx with h | h
          · exact hw x h
          · simp only [List.mem_singleton] at h
            subst h
            show (257 : Int) ≤ 9223372036854775807
            omega
        | false =>
          simp only [cond_false]
          cases v == 4 with
          | false => exact Dr_some ⟨by show m.fSums.length ≤ 41; omega, hw⟩ h4
          | true =>
            simp only [cond_true]
            by_cases hp : (m.fSums.length : Int) > 0
            · simp only [hp, decide_true, cond_true]
              have hlt : 0 < m.fSums.length := by omega
              have e0 : idx m.fSums 0 = some (m.fSums[0]'hlt) := idx_lit m.fSums 0 (List.getElem?_eq_getElem hlt)
              simp only [e0, Option.bind_some]
              refine Dr_some ⟨?_, fun x hx => ?_⟩ h4
              · show (m.fSums.set _ _).length ≤ 41
                rw [List.length_set]; omega
              · rcases List.mem_or_eq_of_mem_set hx with h | h
                · exact hw x h
                · subst h
                  have hq := hw _ (List.getElem_mem hlt)
                  exact hq
            · simp only [hp, decide_false, cond_false]
              exact Dr_some ⟨by show m.fSums.length ≤ 41; omega, hw⟩ h4
theorem plans_loop {u : Nat} (hu : 1099511627776 ≤ u) {b : List Int} {l : List Image} (hb : M.img 200 b) (hl : l.length ≤ 3 ∧ M.imgsOk l) (r4 : (List Int) × (List Int) × Int) : ∀ (c k x : Nat), x + c = 7 → 2 ≤ x → c < k →
    laws_FnPlans_l3 u k (b, l) r4 ((M.bestFrom b l 5 2 0 : Nat) : Int) (x : Int) = laws_FnPlans_j2 u r4 := by
  have hb1 := hb.1
  have hC : ∀ n : Int, impl_CostOf u b l n = some (M.costOf b l n) := fun n => impl_CostOf_eq hu hb.2 (by omega) hl.2 (by omega) n
  have hW : ∀ n : Int, impl_WorstFor u b (l.length : Int) n = some (M.worstFor b (l.length : Int) n) := fun n => impl_WorstFor_eq hu hb.2 (by omega) _ n
  have hinv := best_all b l
  generalize M.bestFrom b l 5 2 0 = best at hinv
  intro c
  induction c with
  | zero =>
    intro k x h1 h2 h3
    obtain ⟨k, rfl⟩ : ∃ j, k = j + 1 := ⟨k - 1, by omega⟩
    unfold laws_FnPlans_l3
    have : ¬ (x : Int) ≤ 6 := by omega
    simp only [this, decide_false, cond_false]
  | succ c ih =>
    intro k x h1 h2 h3
    obtain ⟨k, rfl⟩ : ∃ j, k = j + 1 := ⟨k - 1, by omega⟩
    have hnext : laws_FnPlans_j4 u (fun z0 z1 z2 z3 => laws_FnPlans_l3 u k z0 z1 z2 z3) (b, l) r4 (best : Int) (x : Int) false = laws_FnPlans_j2 u r4 := by
      unfold laws_FnPlans_j4
      rw [cond_false, bAdd_i64 (by omega) (by omega), show (x : Int) + 1 = ((x + 1 : Nat) : Int) by omega]
      exact ih k (x + 1) (by omega) (by omega) (by omega)
    unfold laws_FnPlans_l3
    have hx : (x : Int) ≤ 6 := by omega
    simp only [hx, decide_true, cond_true, hC, Option.bind_some]
    by_cases h4 : M.costOf b l (x : Int) ≥ 0
    · simp only [h4, decide_true, cond_true]
      rcases hinv with ⟨h5, h6⟩ | ⟨h5, h6, h7, h8⟩
      · have := h6 x h2 (by omega); omega
      · have h9 := h8 x h2 (by omega) h4
        have hne : ((best : Int) == 0) = false := by simpa using h5
        have h10 : ¬ M.costOf b l (x : Int) < M.costOf b l (best : Int) := by omega
        have h11 := worst_ge b l (by omega) (x : Int)
        have h12 : ¬ M.costOf b l (x : Int) > M.worstFor b (l.length : Int) (x : Int) := by omega
        simp only [hne, cond_false, h10, decide_false, hW, Option.bind_some, h12]
        by_cases h13 : (x : Int) < (best : Int)
        · have h14 := h9.2 (by omega)
          have h15 : (M.costOf b l (x : Int) == M.costOf b l (best : Int)) = false := by simp; omega
          simp only [h13, decide_true, cond_true, h15, cond_false]
          exact hnext
        · simp only [h13, decide_false, cond_false]
          exact hnext
    · simp only [h4, decide_false, cond_false]
      exact hnext
theorem plans_end {u : Nat} (hu : 1099511627776 ≤ u) {d old : List Int} (hd : M.img 300 d) (ho : M.img 300 old) (s : Int) : laws_FnPlans_j2 u (d, old, s) = some true := by
  have h1 := hd.1
  have h2 := ho.1
  have hr := savedBy_range d old s
  unfold laws_FnPlans_j2
  simp only [impl_SavedBy_eq hu hd.2 (show d.length ≤ 1073741823 by omega) ho.2 (show old.length ≤ 1073741823 by omega), impl_SavedBy_eq hu hd.2 (show d.length ≤ 1073741823 by omega) hd.2 (show d.length ≤ 1073741823 by omega), impl_SizeOk_eq, Option.bind_some]
  have e1 : M.savedBy d old s ≥ 0 := hr.1
  simp only [e1, hr.2, decide_true, cond_true]
  cases hs : M.sizeOk s (d.length : Int) with
  | false => rfl
  | true =>
    rw [savedBy_self hs]
    simp
theorem img_up {n m : Nat} {b : List Int} (h : M.img n b) (hn : n ≤ m) : M.img m b := ⟨Nat.le_trans h.1 hn, h.2⟩
theorem FnPlans_gen {u : Nat} (hu : 1099511627776 ≤ u) (p0 : List Int) : laws_FnPlans u p0 = some true := by
  unfold laws_FnPlans laws_big
  simp only [Option.bind_some]
  by_cases hb : (p0.length : Int) > 1048576
  · simp only [hb, decide_true, cond_true]
  · simp only [hb, decide_false, cond_false]
    have hl : p0.length ≤ 1048576 := by omega
    obtain ⟨c, e0, hc⟩ := l1New_eq hu hl
    obtain ⟨b, l, c1, e1, hb1, hl1, h1⟩ := l27Olds_dr hu hc
    obtain ⟨s2, c2, e2, _, h2⟩ := l4Size_dr u h1
    obtain ⟨old, c3, e3, ho, h3⟩ := l7Old_dr hu h1 (b := b) hb1.1 hb1.2
    obtain ⟨s4, c4, e4, _, h4⟩ := l4Size_dr u h3
    obtain ⟨n5, c5, e5, _, h5⟩ := l1Int_dr u h1 (xs := [0, 1, 3, 7, 8, -1]) (by simp)
    obtain ⟨s6, c6, e6, _, h6⟩ := l4Size_dr u h5
    obtain ⟨g, c7, e7, hg, h7⟩ := l6Any_dr hu hc
    have d1 : spec_DrawBestSize u p0 = some (b, l) := by unfold spec_DrawBestSize; simp only [e0, e1, Option.bind_some]
    have d2 : spec_DrawCostOf u p0 = some (b, l, s2) := by unfold spec_DrawCostOf; simp only [e0, e1, e2, Option.bind_some]
    have d3 : spec_DrawSavedBy u p0 = some (b, old, s4) := by unfold spec_DrawSavedBy; simp only [e0, e1, e3, e4, Option.bind_some]
    have d4 : spec_DrawWorstFor u p0 = some (b, n5, s6) := by unfold spec_DrawWorstFor; simp only [e0, e1, e5, e6, Option.bind_some]
    have d5 : spec_DrawManBytes u p0 = some g := by unfold spec_DrawManBytes; simp only [e0, e7, Option.bind_some]
    have hbl := hb1.1
    have hol := ho.1
    have hil := hl1.1
    obtain ⟨t, t1, t2⟩ := CostTable_eqB hu hb1.2 hl1.2 (by omega) (by omega)
    simp only [d1, d2, d3, d4, d5, Option.bind_some, impl_BestSize_eqB hu hb1.2 (show b.length ≤ 1048576 by omega) hl1.2 (show l.length ≤ 1048576 by omega), spec_BestSize_eqB hu hb1.2 (show b.length ≤ 1048576 by omega) hl1.2 (show l.length ≤ 1048576 by omega),
      impl_CostOf_eq hu hb1.2 (show b.length ≤ 1073741823 by omega) hl1.2 (show l.length ≤ 1048576 by omega), spec_CostOf_eq hu hb1.2 (show b.length ≤ 1073741823 by omega) hl1.2 (show l.length ≤ 1048576 by omega),
      impl_SavedBy_eq hu hb1.2 (show b.length ≤ 1073741823 by omega) ho.2 (show old.length ≤ 1073741823 by omega), spec_SavedBy_eq hu hb1.2 (show b.length ≤ 1073741823 by omega) ho.2 (show old.length ≤ 1073741823 by omega),
      impl_WorstFor_eq hu hb1.2 (show b.length ≤ 1073741823 by omega), spec_WorstFor_eq hu hb1.2 (show b.length ≤ 1073741823 by omega),
      impl_ManBytes_eq hu (show g.fSums.length ≤ 1073741824 by have := hg.1; omega) hg.2, spec_ManBytes_eq hu (show g.fSums.length ≤ 1073741824 by have := hg.1; omega) hg.2, t1, t2, bne_self_eq_false, cond_false, beq_self_eq_true, Bool.not_true]
    unfold laws_FnPlans_j1
    rw [cond_false, show (2 : Int) = ((2 : Nat) : Int) by rfl, plans_loop hu hb1 hl1 _ 5 u 2 (by omega) (by omega) (by omega)]
    exact plans_end hu (img_up hb1 (by omega)) ho s4
theorem FnPlans_law (p0 : List Int) (h : wSl (wInt .u8) p0 ∧ True) : laws_FnPlans 1099511627776 p0 = some true := FnPlans_gen (Nat.le_refl _) p0
end Go.Tm.Pu
