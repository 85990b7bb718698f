/- draft -/
import Derived.Test.YtlhbkdaohjnjbaaMbD
import Derived.Test.YtlhbkdaohjnjbaaPu1
set_option linter.unusedVariables false
set_option linter.unusedSimpArgs false
namespace Go.Tm.M
def within (n a b : Int) : Bool := decide (a ≤ n) && decide (n ≤ b)
def sizeOk (size n : Int) : Bool := within size 2 6 && within n 0 (40 * size)
def blocks (size n : Int) : Int := if sizeOk size n then (n + size - 1) / size else 0
def spanOf (size n i : Int) : Int × Int := if within i 0 (blocks size n - 1) then (i * size, min size (n - i * size)) else (0, 0)
end Go.Tm.M
namespace Go.Tm.Pu
open Go.Tm
theorem within_t {n a b : Int} (h : M.within n a b = true) : a ≤ n ∧ n ≤ b := by simpa [M.within] using h
theorem within_f {n a b : Int} (h : M.within n a b = false) : n < a ∨ b < n := by
  simp [M.within] at h; omega
theorem impl_within_eq (u : Nat) (n a b : Int) : impl_within u n a b = some (M.within n a b) := by
  unfold impl_within M.within
  by_cases h : a ≤ n <;> simp [h]
theorem spec_l1In_eq (u : Nat) (n a b : Int) : spec_l1In u n a b = some (M.within n a b) := by
  unfold spec_l1In M.within
  by_cases h : a ≤ n <;> simp [h]
theorem impl_SizeOk_eq (u : Nat) (s n : Int) : impl_SizeOk u s n = some (M.sizeOk s n) := by
  unfold impl_SizeOk M.sizeOk
  simp only [impl_within_eq, Option.bind_some]
  cases h : M.within s 2 6 with
  | false => simp
  | true =>
    have := within_t h
    simp (disch := omega) only [cond_true, Bool.true_and, bMul_i64]
theorem spec_SizeOk_eq (u : Nat) (s n : Int) : spec_SizeOk u s n = some (M.sizeOk s n) := by
  unfold spec_SizeOk M.sizeOk
  simp only [spec_l1In_eq, Option.bind_some]
  cases h : M.within s 2 6 with
  | false => simp
  | true =>
    have := within_t h
    simp (disch := omega) only [cond_true, Bool.true_and, bMul_i64]
    rw [Int.mul_comm]
theorem sizeOk_t {s n : Int} (h : M.sizeOk s n = true) : 2 ≤ s ∧ s ≤ 6 ∧ 0 ≤ n ∧ n ≤ 40 * s := by
  simp [M.sizeOk, M.within] at h; omega
def M.ceilDiv (a b : Int) : Int := if M.within a 0 1000000000000 && M.within b 1 1000000000000 then (a + b - 1) / b else 0
theorem impl_CeilDiv_eq (u : Nat) (a b : Int) : impl_CeilDiv u a b = some (M.ceilDiv a b) := by
  unfold impl_CeilDiv M.ceilDiv impl_CeilDiv_j1
  simp only [impl_within_eq, Option.bind_some]
  cases h : M.within a 0 1000000000000 with
  | false => simp
  | true =>
    cases h2 : M.within b 1 1000000000000 with
    | false => simp
    | true =>
      have := within_t h
      have := within_t h2
      have hb : (b == 0) = false := by simp; omega
      simp (disch := omega) [chk, bAdd_i64, bSub_i64, bQuo_pos, hb]
theorem spec_CeilDiv_eq (u : Nat) (a b : Int) : spec_CeilDiv u a b = some (M.ceilDiv a b) := by
  unfold spec_CeilDiv M.ceilDiv spec_CeilDiv_j1
  simp only [spec_l1In_eq, Option.bind_some]
  cases h : M.within a 0 1000000000000 with
  | false => simp
  | true =>
    cases h2 : M.within b 1 1000000000000 with
    | false => simp
    | true =>
      have := within_t h
      have := within_t h2
      have hb : (b == 0) = false := by simp; omega
      simp (disch := omega) [chk, bAdd_i64, bSub_i64, bQuo_pos, hb]
theorem blocks_ceil {s n : Int} (h : M.sizeOk s n = true) : M.ceilDiv n s = (n + s - 1) / s := by
  have := sizeOk_t h
  have h1 : M.within n 0 1000000000000 = true := by simp [M.within]; omega
  have h2 : M.within s 1 1000000000000 = true := by simp [M.within]; omega
  simp [M.ceilDiv, h1, h2]
theorem impl_Blocks_eq (u : Nat) (s n : Int) : impl_Blocks u s n = some (M.blocks s n) := by
  unfold impl_Blocks M.blocks
  simp only [impl_SizeOk_eq, impl_CeilDiv_eq, Option.bind_some]
  cases h : M.sizeOk s n with
  | false => simp
  | true => simp [blocks_ceil h]
theorem spec_Blocks_eq (u : Nat) (s n : Int) : spec_Blocks u s n = some (M.blocks s n) := by
  unfold spec_Blocks M.blocks
  simp only [spec_SizeOk_eq, spec_CeilDiv_eq, Option.bind_some]
  cases h : M.sizeOk s n with
  | false => simp
  | true => simp [blocks_ceil h]
theorem blocks_range (s n : Int) : 0 ≤ M.blocks s n ∧ M.blocks s n ≤ 40 := by
  unfold M.blocks
  split
  · rename_i h
    have h := sizeOk_t h
    refine ⟨Int.ediv_nonneg (by omega) (by omega), ?_⟩
    have : (n + s - 1) / s < 41 := Int.ediv_lt_of_lt_mul (by omega) (by omega)
    omega
  · omega
theorem blocks_ok {s n i : Int} (h : M.within i 0 (M.blocks s n - 1) = true) : M.sizeOk s n = true ∧ 0 ≤ i ∧ i ≤ 39 := by
  have h1 := within_t h
  have := blocks_range s n
  refine ⟨?_, by omega, by omega⟩
  cases h2 : M.sizeOk s n with
  | true => rfl
  | false => simp [M.blocks, h2] at h1; omega
theorem mul_range {s i : Int} (h1 : 2 ≤ s) (h2 : s ≤ 6) (h3 : 0 ≤ i) (h4 : i ≤ 39) : 0 ≤ i * s ∧ i * s ≤ 234 :=
  ⟨Int.mul_nonneg h3 (by omega), Int.le_trans (Int.mul_le_mul h4 h2 (by omega) (by omega)) (by omega)⟩
theorem impl_SpanOf_eq (u : Nat) (s n i : Int) : impl_SpanOf u s n i = some (M.spanOf s n i) := by
  unfold impl_SpanOf M.spanOf
  have hb := blocks_range s n
  simp (disch := omega) only [impl_Blocks_eq, impl_within_eq, Option.bind_some, bSub_i64]
  cases h : M.within i 0 (M.blocks s n - 1) with
  | false => simp
  | true =>
    have ⟨h1, h2, h3⟩ := blocks_ok h
    have h1 := sizeOk_t h1
    have h4 := mul_range (s := s) (i := i) (by omega) (by omega) h2 h3
    simp (disch := omega) [bMul_i64, bSub_i64]
    omega
theorem spec_Least_eq (u : Nat) (a b : Int) : spec_Least u a b = some (min a b) := by
  unfold spec_Least
  by_cases h : b < a <;> simp [h] <;> omega
theorem spec_SpanOf_eq (u : Nat) (s n i : Int) : spec_SpanOf u s n i = some (M.spanOf s n i) := by
  unfold spec_SpanOf M.spanOf
  have hb := blocks_range s n
  simp (disch := omega) only [spec_Blocks_eq, spec_l1In_eq, Option.bind_some, bSub_i64]
  cases h : M.within i 0 (M.blocks s n - 1) with
  | false => simp
  | true =>
    have ⟨h1, h2, h3⟩ := blocks_ok h
    have h1 := sizeOk_t h1
    have h4 := mul_range (s := s) (i := i) (by omega) (by omega) h2 h3
    simp (disch := omega) [bMul_i64, bSub_i64, spec_Least_eq]
/-! ### weak -/
def M.isBytes (b : List Int) : Prop := ∀ x ∈ b, 0 ≤ x ∧ x ≤ 255
def M.weakS : List Int → Int → Int → Int × Int
  | [], x, y => (x, y)
  | c :: b, x, y => M.weakS b ((x + c) % 251) ((y + (x + c) % 251) % 251)
def M.weakOf (b : List Int) : Int := (M.weakS b 0 0).1 + 251 * (M.weakS b 0 0).2
theorem weakS_range (b : List Int) : ∀ (x y : Int), 0 ≤ x → x < 251 → 0 ≤ y → y < 251 → 0 ≤ (M.weakS b x y).1 ∧ (M.weakS b x y).1 < 251 ∧ 0 ≤ (M.weakS b x y).2 ∧ (M.weakS b x y).2 < 251 := by
  induction b with
  | nil => intro x y h1 h2 h3 h4; exact ⟨h1, h2, h3, h4⟩
  | cons c b ih =>
    intro x y h1 h2 h3 h4
    exact ih _ _ (by omega) (by omega) (by omega) (by omega)
theorem weakOf_range (b : List Int) : 0 ≤ M.weakOf b ∧ M.weakOf b ≤ 63000 := by
  have := weakS_range b 0 0 (by omega) (by omega) (by omega) (by omega)
  unfold M.weakOf; omega
theorem spec_WeakOf_w (u : Nat) : ∀ (p b : List Int) (i : Nat) (x y : Int), M.isBytes b → 0 ≤ x → x < 251 → 0 ≤ y → y < 251 →
    wlist (spec_WeakOf_l2_f u p) (spec_WeakOf_l2_b u p) b i (x, y) = spec_WeakOf_j1 u (M.weakS b x y).1 (M.weakS b x y).2 := by
  intro p b
  induction b with
  | nil => intros; rfl
  | cons c b ih =>
    intro i x y hb h1 h2 h3 h4
    have hc := hb c (by simp)
    have e1 : bRem .i64 (bAdd .i64 x (IntKind.wrap .i64 c)) 251 = (x + c) % 251 := by
      rw [wrap_i64 (by omega) (by omega), bAdd_i64 (by omega) (by omega), bRem_pos (by omega)]
    have e2 : bRem .i64 (bAdd .i64 y ((x + c) % 251)) 251 = (y + (x + c) % 251) % 251 := by
      rw [bAdd_i64 (by omega) (by omega), bRem_pos (by omega)]
    simp only [wlist, spec_WeakOf_l2_b, e1, e2]
    exact ih (i + 1) _ _ (fun z hz => hb z (by simp [hz])) (by omega) (by omega) (by omega) (by omega)
theorem impl_WeakOf_w (u : Nat) : ∀ (p b : List Int) (i : Nat) (x y : Int), M.isBytes b → 0 ≤ x → x < 251 → 0 ≤ y → y < 251 →
    wlist (impl_WeakOf_l2_f u p) (impl_WeakOf_l2_b u p) b i (x, y) = impl_WeakOf_j1 u (M.weakS b x y).1 (M.weakS b x y).2 := by
  intro p b
  induction b with
  | nil => intros; rfl
  | cons c b ih =>
    intro i x y hb h1 h2 h3 h4
    have hc := hb c (by simp)
    have e1 : bRem .i64 (bAdd .i64 x (IntKind.wrap .i64 c)) 251 = (x + c) % 251 := by
      rw [wrap_i64 (by omega) (by omega), bAdd_i64 (by omega) (by omega), bRem_pos (by omega)]
    have e2 : bRem .i64 (bAdd .i64 y ((x + c) % 251)) 251 = (y + (x + c) % 251) % 251 := by
      rw [bAdd_i64 (by omega) (by omega), bRem_pos (by omega)]
    simp only [wlist, impl_WeakOf_l2_b, e1, e2]
    exact ih (i + 1) _ _ (fun z hz => hb z (by simp [hz])) (by omega) (by omega) (by omega) (by omega)
theorem spec_WeakOf_eq {u : Nat} (hu : 1099511627776 ≤ u) {b : List Int} (hb : M.isBytes b) (hl : b.length ≤ 1073741824) : spec_WeakOf u b = some (M.weakOf b) := by
  unfold spec_WeakOf
  rw [spec_WeakOf_l2_w u b (0, 0) u (by omega) (by omega), spec_WeakOf_w u b b 0 0 0 hb (by omega) (by omega) (by omega) (by omega)]
  have := weakS_range b 0 0 (by omega) (by omega) (by omega) (by omega)
  unfold spec_WeakOf_j1 M.weakOf
  simp (disch := omega) only [bMul_i64, bAdd_i64]
theorem tmod_wrap {n m : Int} (hm : 0 < m) : (n.tmod m + m).tmod m = n % m := by
  rcases Int.le_total 0 n with h | h
  · rw [Int.tmod_eq_emod_of_nonneg h, Int.tmod_eq_emod_of_nonneg (by have := Int.emod_nonneg n (show m ≠ 0 by omega); omega)]
    simp
  · have h1 : n.tmod m = -((-n) % m) := by
      rw [show n = -(-n) by omega, Int.neg_tmod, Int.tmod_eq_emod_of_nonneg (by omega)]; simp
    have h2 := Int.emod_nonneg (-n) (show m ≠ 0 by omega)
    have h3 := Int.emod_lt_of_pos (-n) hm
    rw [h1, Int.tmod_eq_emod_of_nonneg (by omega)]
    have : (-((-n) % m) + m) % m = n % m := by
      have e : -n = m * (-n / m) + (-n) % m := (Int.mul_ediv_add_emod (-n) m).symm
      have e2 : -((-n) % m) + m = n + m * (-n / m + 1) := by
        rw [Int.mul_add]; omega
      rw [e2, Int.add_mul_emod_self_left]
    exact this
theorem tmod_range {n m : Int} (hm : 0 < m) : -m < n.tmod m ∧ n.tmod m < m := by
  rcases Int.le_total 0 n with h | h
  · rw [Int.tmod_eq_emod_of_nonneg h]
    have h2 := Int.emod_nonneg n (show m ≠ 0 by omega)
    have h3 := Int.emod_lt_of_pos n hm
    omega
  · have h1 : n.tmod m = -((-n) % m) := by
      rw [show n = -(-n) by omega, Int.neg_tmod, Int.tmod_eq_emod_of_nonneg (by omega)]; simp
    have h2 := Int.emod_nonneg (-n) (show m ≠ 0 by omega)
    have h3 := Int.emod_lt_of_pos (-n) hm
    omega
theorem impl_Wrap_eq (u : Nat) (n m : Int) : impl_Wrap u n m = some (if M.within m 1 1000000000000 then n % m else 0) := by
  unfold impl_Wrap
  simp only [impl_within_eq, Option.bind_some]
  cases h : M.within m 1 1000000000000 with
  | false => simp
  | true =>
    have h3 := within_t h
    have hb : (m == 0) = false := by simp; omega
    have h4 := tmod_range (n := n) (m := m) (by omega)
    simp only [hb, Bool.not_true, cond_false, Bool.not_false, chk_true, Option.bind_some]
    have e1 : bRem .i64 n m = n.tmod m := rfl
    rw [e1, bAdd_i64 (by omega) (by omega)]
    show some ((n.tmod m + m).tmod m) = _
    rw [tmod_wrap (by omega)]; simp
theorem impl_weak_eq (u : Nat) (x y : Int) : impl_weak u x y = some (x % 251 + 251 * (y % 251)) := by
  unfold impl_weak
  have h : M.within 251 1 1000000000000 = true := by decide
  simp only [impl_Wrap_eq, Option.bind_some, h, if_true]
  simp (disch := omega) only [bMul_i64, bAdd_i64]
theorem impl_WeakOf_eq {u : Nat} (hu : 1099511627776 ≤ u) {b : List Int} (hb : M.isBytes b) (hl : b.length ≤ 1073741824) : impl_WeakOf u b = some (M.weakOf b) := by
  unfold impl_WeakOf
  rw [impl_WeakOf_l2_w u b (0, 0) u (by omega) (by omega), impl_WeakOf_w u b b 0 0 0 hb (by omega) (by omega) (by omega) (by omega)]
  have := weakS_range b 0 0 (by omega) (by omega) (by omega) (by omega)
  unfold impl_WeakOf_j1 M.weakOf
  simp only [impl_weak_eq, Option.bind_some]
  congr 1
  omega
/-! ### bytes of a sum -/
def M.digits : Nat → Int → List Int
  | 0, _ => []
  | n + 1, s => M.digits n (s / 256) ++ [s % 256]
def M.bytesR : Nat → Int → Option (List Int)
  | 0, s => if s = 1 then some [] else none
  | n + 1, s => if s = 1 then some [] else if s < 256 then none else (M.bytesR n (s / 256)).map (· ++ [s % 256])
def M.bytesOf (s : Int) : List Int × Bool := if s < 1 then ([], false) else match M.bytesR 6 s with | some b => (b, true) | none => ([], false)
def M.nOf : Nat → Int → Nat
  | 0, _ => 0
  | k + 1, t => if 1 < t then M.nOf k (t / 256) + 1 else 0
def M.endOf : Nat → Int → Int
  | 0, t => t
  | k + 1, t => if 1 < t then M.endOf k (t / 256) else t
theorem nOf_le : ∀ (k : Nat) (t : Int), M.nOf k t ≤ k := by
  intro k
  induction k with
  | zero => intro t; simp [M.nOf]
  | succ k ih => intro t; unfold M.nOf; have := ih (t / 256); split <;> omega
theorem endOf_eq : ∀ (k : Nat) (t : Int), M.endOf k t = t / 256 ^ M.nOf k t := by
  intro k
  induction k with
  | zero => intro t; simp [M.endOf, M.nOf]
  | succ k ih =>
    intro t
    unfold M.endOf M.nOf
    split
    · rw [ih, Int.ediv_ediv_of_nonneg (by omega), Int.pow_succ, Int.mul_comm]
    · simp
theorem bytesR_eq : ∀ (k : Nat) (t : Int), 0 ≤ t → M.bytesR k t = if M.endOf k t = 1 then some (M.digits (M.nOf k t) t) else none := by
  intro k
  induction k with
  | zero => intro t h; simp [M.bytesR, M.endOf, M.nOf, M.digits]
  | succ k ih =>
    intro t h
    unfold M.bytesR M.endOf M.nOf
    by_cases h1 : t = 1
    · subst h1; simp [M.digits]
    · rw [if_neg h1]
      by_cases h2 : 1 < t
      · simp only [if_pos h2]
        by_cases h3 : t < 256
        · have : t / 256 = 0 := Int.ediv_eq_zero_of_lt h h3
          rw [if_pos h3, this]
          have : M.endOf k 0 = 0 := by rw [endOf_eq]; simp
          rw [this]; simp
        · rw [if_neg h3, ih _ (by omega)]
          split <;> simp [M.digits]
      · have : t = 0 := by omega
        subst this; simp
theorem endOf_ge : ∀ (k : Nat) (t : Int), 0 ≤ t → t / 256 ^ k ≤ M.endOf k t := by
  intro k
  induction k with
  | zero => intro t h; simp [M.endOf]
  | succ k ih =>
    intro t h
    unfold M.endOf
    split
    · have := ih (t / 256) (by omega)
      rwa [Int.ediv_ediv_of_nonneg (by omega), Int.mul_comm, ← Int.pow_succ] at this
    · exact Int.ediv_le_self _ h
theorem digits_bytes : ∀ (n : Nat) (s : Int), M.isBytes (M.digits n s) := by
  intro n
  induction n with
  | zero => intro s x hx; simp [M.digits] at hx
  | succ n ih =>
    intro s x hx
    simp only [M.digits, List.mem_append, List.mem_singleton] at hx
    rcases hx with h | h
    · exact ih _ x h
    · omega
theorem digits_length : ∀ (n : Nat) (s : Int), (M.digits n s).length = n := by
  intro n
  induction n with
  | zero => intro s; rfl
  | succ n ih => intro s; simp [M.digits, ih]
theorem bytesOf_some {s : Int} {b : List Int} (h : M.bytesOf s = (b, true)) : 1 ≤ s ∧ s / 256 ^ b.length = 1 ∧ b = M.digits b.length s ∧ b.length ≤ 6 := by
  unfold M.bytesOf at h
  split at h
  · cases h
  · rename_i h1
    rw [bytesR_eq 6 s (by omega)] at h
    have he := endOf_eq 6 s
    have hn := nOf_le 6 s
    by_cases h2 : M.endOf 6 s = 1
    · simp only [h2, if_true, Prod.mk.injEq, and_true] at h
      subst h
      rw [digits_length]
      exact ⟨by omega, by rw [← he]; exact h2, rfl, hn⟩
    · simp [h2] at h
theorem bytesOf_bytes (s : Int) : M.isBytes (M.bytesOf s).1 ∧ (M.bytesOf s).1.length ≤ 6 := by
  match h : M.bytesOf s with
  | (b, true) =>
    have h := bytesOf_some h
    exact ⟨by rw [h.2.2.1]; exact digits_bytes _ _, h.2.2.2⟩
  | (b, false) =>
    have : b = [] := by
      unfold M.bytesOf at h
      split at h
      · simp at h; exact h.symm ▸ rfl
      · split at h <;> simp at h; exact h.symm ▸ rfl
    subst this
    exact ⟨by simp [M.isBytes], by simp⟩
theorem bAnd255 (a : Int) (h : 0 ≤ a) : IntKind.wrap .u8 (bAnd .i64 a 255) = a % 256 := by
  have : bAnd .i64 a 255 = a % 256 := by
    unfold bAnd
    have e : (BitVec.ofInt (IntKind.bits .i64) a &&& BitVec.ofInt (IntKind.bits .i64) 255).toNat = (a % 256).toNat := by
      change (BitVec.ofInt 64 a &&& BitVec.ofInt 64 255).toNat = (a % 256).toNat
      rw [BitVec.toNat_and, BitVec.toNat_ofInt, BitVec.toNat_ofInt, show ((255 : Int) % ((2 ^ 64 : Nat) : Int)).toNat = 2 ^ 8 - 1 by decide, Nat.and_two_pow_sub_one_eq_mod]
      omega
    rw [e]
    exact (wrap_i64 (by omega) (by omega)).trans (by omega)
  rw [this, wrap_u8]; omega
theorem spec_BytesOf_l2_eq (u : Nat) : ∀ (k n : Nat) (s : Int) (acc : List Int), n < k → 1 ≤ s → s < 256 ^ n * 2 → acc.length + n ≤ 1000 →
    spec_BytesOf_l2 u k s acc = some (match M.bytesR n s with | some b => (b ++ acc, true) | none => ([], false)) := by
  intro k
  induction k with
  | zero => intro n s acc h; omega
  | succ k ih =>
    intro n s acc hk h1 h2 h3
    unfold spec_BytesOf_l2
    by_cases h4 : s = 1
    · subst h4
      cases n <;> simp [M.bytesR, spec_BytesOf_j1]
    · have h5 : s > 1 := by omega
      cases n with
      | zero => simp at h2; omega
      | succ n =>
        simp only [h5, decide_true, cond_true, M.bytesR, if_neg h4]
        by_cases h6 : s < 256
        · simp [h6]
        · have hw : ([IntKind.wrap .u8 (bAnd .i64 s 255)]) = [s % 256] := by rw [bAnd255 _ (by omega)]
          simp only [h6, decide_false, cond_false, if_false, bShr8, hw]
          rw [chk_dec (by simp; omega)]
          simp only [Option.bind_some]
          rw [ih n (s / 256) _ (by omega) (by omega) (by rw [Int.pow_succ] at h2; omega) (by simp; omega)]
          cases M.bytesR n (s / 256) <;> simp
theorem bytesOf_big {s : Int} (h : 562949953421311 < s) : M.bytesOf s = ([], false) := by
  unfold M.bytesOf
  rw [if_neg (by omega), bytesR_eq 6 s (by omega)]
  have := endOf_ge 6 s (by omega)
  have e : (256 : Int) ^ 6 = 281474976710656 := by decide
  rw [e] at this
  rw [if_neg (by omega)]
theorem spec_BytesOf_eq {u : Nat} (hu : 1099511627776 ≤ u) (s : Int) : spec_BytesOf u s = some (M.bytesOf s) := by
  unfold spec_BytesOf
  simp only [spec_l1In_eq, Option.bind_some]
  cases h : M.within s 1 562949953421311 with
  | false =>
    rcases within_f h with h | h
    · simp [M.bytesOf, h]
    · rw [bytesOf_big h]; simp
  | true =>
    have h := within_t h
    have e : (256 : Int) ^ 6 = 281474976710656 := by decide
    simp only [Bool.not_true, cond_false]
    rw [spec_BytesOf_l2_eq u u 6 s [] (by omega) (by omega) (by rw [e]; omega) (by simp)]
    unfold M.bytesOf
    rw [if_neg (by omega)]
    cases M.bytesR 6 s <;> simp
theorem bShr8j (s : Int) (j : Nat) (h : j ≤ 8) : bShr .i64 s (8 * (j : Int)) = s / 256 ^ j := by
  have := bShr_k .i64 s (8 * j) (by simp [IntKind.bits]; omega)
  rw [show ((8 * j : Nat) : Int) = 8 * (j : Int) by simp] at this
  rw [this, show (256 : Int) = 2 ^ 8 by decide, ← Int.pow_mul]
/-- A row that is filled place by place. -/
theorem walk_fill {α ρ : Type} {fin : List α → Option ρ} {body : Nat → List α → (List α → Option ρ) → Option ρ} (f : Nat → α) (n : Nat) (hb : ∀ i s k, i < n → s.length = n → body i s k = k (s.set i (f i))) :
    ∀ (m i : Nat) (s : List α), i + m = n → s.length = n → s.take i = (List.range i).map f → walk fin body m i s = fin ((List.range n).map f) := by
  intro m
  induction m with
  | zero =>
    intro i s h1 h2 h3
    simp only [walk]
    congr 1
    rw [List.take_of_length_le (by omega)] at h3
    rw [h3, show i = n by omega]
  | succ m ih =>
    intro i s h1 h2 h3
    simp only [walk]
    rw [hb i s _ (by omega) h2]
    refine ih (i + 1) _ (by omega) (by simp [h2]) ?_
    rw [List.take_add_one, List.take_set_of_le (Nat.le_refl i), h3, List.getElem?_set_self (by omega), List.range_succ, List.map_append]
    rfl
theorem digits_range : ∀ (n : Nat) (s : Int), M.digits n s = (List.range n).map fun i => s / 256 ^ (n - 1 - i) % 256 := by
  intro n
  induction n with
  | zero => intro s; rfl
  | succ n ih =>
    intro s
    rw [M.digits, ih, List.range_succ, List.map_append]
    congr 1
    · apply List.map_congr_left
      intro i hi
      have hi : i < n := by simpa using hi
      rw [Int.ediv_ediv_of_nonneg (by omega), Int.mul_comm, ← Int.pow_succ, show (n - 1 - i).succ = n + 1 - 1 - i by omega]
    · simp
theorem impl_BytesOf_j1_eq {u : Nat} (hu : 1099511627776 ≤ u) (s : Int) (n : Nat) (hn : n ≤ 6) : impl_BytesOf_j1 u s (n : Int) = some (if 1 ≤ s ∧ s / 256 ^ n = 1 then (M.digits n s, true) else ([], false)) := by
  unfold impl_BytesOf_j1
  by_cases h1 : s < 1
  · have : ¬ (1 ≤ s) := by omega
    simp [h1, this, impl_BytesOf_j2]
  · rw [bMul_i64 (by omega) (by omega), bShr8j _ _ (by omega), chk_dec (by omega)]
    by_cases h2 : s / 256 ^ n = 1
    · have h3 : (1 : Int) ≤ s := by omega
      simp only [h1, decide_false, cond_false, Option.bind_some, h2, h3, true_and, if_true]
      unfold impl_BytesOf_j2
      rw [show ((1 : Int) != 1) = false by decide]
      simp only [cond_false, beq_self_eq_true, Bool.or_true, Bool.and_true, Int.toNat_natCast]
      rw [chk_dec (by omega), chk_dec (by omega)]
      simp only [Option.bind_some]
      rw [impl_BytesOf_l4_w u s n _ u (by simp; omega) (by simp; omega)]
      simp only [List.length_replicate, Int.toNat_natCast]
      rw [walk_fill (fun i => s / 256 ^ (n - 1 - i) % 256) n _ n 0 _ (by omega) (by simp) (by simp), ← digits_range]
      · rfl
      · intro i t k hi ht
        unfold impl_BytesOf_l4_b
        have e : bSub .i64 (bSub .i64 (n : Int) 1) (i : Int) = ((n - 1 - i : Nat) : Int) := by
          rw [bSub_i64 (a := (n : Int)) (by omega) (by omega), bSub_i64 (by omega) (by omega)]; omega
        rw [e, bMul_i64 (by omega) (by omega), bShr8j _ _ (by omega), chk_dec (by omega), wrap_u8, idx_nat, List.getElem?_eq_getElem (by omega)]
        simp
    · have : (s / 256 ^ n != 1) = true := by simpa using h2
      simp only [h1, decide_false, cond_false, Option.bind_some, this]
      simp [impl_BytesOf_j2, h2]
theorem impl_BytesOf_l5_eq {u : Nat} (hu : 1099511627776 ≤ u) (s : Int) : ∀ (m n k : Nat), n + m = 6 → m < k → impl_BytesOf_l5 u k s (n : Int) = impl_BytesOf_j1 u s ((n + M.nOf m (s / 256 ^ n) : Nat) : Int) := by
  intro m
  induction m with
  | zero =>
    intro n k h1 h2
    obtain ⟨k, rfl⟩ : ∃ j, k = j + 1 := ⟨k - 1, by omega⟩
    unfold impl_BytesOf_l5
    have : ¬ ((n : Int) < 6) := by omega
    simp [this, impl_BytesOf_j6, M.nOf]
  | succ m ih =>
    intro n k h1 h2
    obtain ⟨k, rfl⟩ : ∃ j, k = j + 1 := ⟨k - 1, by omega⟩
    unfold impl_BytesOf_l5
    have h3 : (n : Int) < 6 := by omega
    rw [bMul_i64 (by omega) (by omega), bShr8j _ _ (by omega), chk_dec (by omega)]
    simp only [h3, decide_true, cond_true, Option.bind_some, impl_BytesOf_j6, M.nOf]
    by_cases h4 : s / 256 ^ n > 1
    · have h4' : 1 < s / 256 ^ n := h4
      simp only [h4, decide_true, cond_true, h4', if_true]
      rw [bAdd_succ (by omega), ih (n + 1) k (by omega) (by omega), Int.pow_succ, ← Int.ediv_ediv_of_nonneg (Int.le_of_lt (Int.pow_pos (by omega)))]
      congr 1
      omega
    · have h4' : ¬ 1 < s / 256 ^ n := h4
      simp only [h4, decide_false, cond_false, h4', if_false]
      simp
theorem impl_BytesOf_eq {u : Nat} (hu : 1099511627776 ≤ u) (s : Int) : impl_BytesOf u s = some (M.bytesOf s) := by
  unfold impl_BytesOf
  have := impl_BytesOf_l5_eq hu s 6 0 u (by omega) (by omega)
  simp only [Int.natCast_zero, Int.pow_zero, Int.ediv_one, Nat.zero_add] at this
  rw [this, impl_BytesOf_j1_eq hu s _ (nOf_le 6 s)]
  unfold M.bytesOf
  by_cases h : s < 1
  · have : ¬ (1 ≤ s) := by omega
    simp [h, this]
  · rw [if_neg h, bytesR_eq 6 s (by omega), endOf_eq]
    have : 1 ≤ s := by omega
    by_cases h2 : s / 256 ^ M.nOf 6 s = 1 <;> simp [h2, this]
/-! ### sums -/
def M.valS : List Int → Int → Int
  | [], s => s
  | c :: b, s => M.valS b (256 * s + c)
def M.sumOf (b : List Int) : Sum := if 6 < b.length then ⟨0, 0⟩ else ⟨M.weakOf b, M.valS b 1⟩
theorem valS_app (a b : List Int) : ∀ s, M.valS (a ++ b) s = M.valS b (M.valS a s) := by
  induction a with
  | nil => intro s; rfl
  | cons c a ih => intro s; exact ih _
theorem valS_digits : ∀ (n : Nat) (s : Int), s / 256 ^ n = 1 → M.valS (M.digits n s) 1 = s := by
  intro n
  induction n with
  | zero => intro s h; simpa [M.digits, M.valS] using h.symm
  | succ n ih =>
    intro s h
    rw [M.digits, valS_app, ih]
    · simp only [M.valS]; omega
    · rw [Int.ediv_ediv_of_nonneg (by omega), Int.mul_comm, ← Int.pow_succ]; exact h
theorem sumOf_bytesOf {s : Int} {b : List Int} (h : M.bytesOf s = (b, true)) : M.sumOf b = ⟨M.weakOf b, s⟩ := by
  have ⟨h1, h2, h3, h4⟩ := bytesOf_some h
  unfold M.sumOf
  have := valS_digits b.length s h2
  rw [← h3] at this
  rw [if_neg (by omega), this]
theorem valS_bound : ∀ (b : List Int) (s : Int) (n : Nat), M.isBytes b → 0 ≤ s → s < 256 ^ n * 2 → 0 ≤ M.valS b s ∧ M.valS b s < 256 ^ (n + b.length) * 2 := by
  intro b
  induction b with
  | nil => intro s n _ h1 h2; exact ⟨h1, h2⟩
  | cons c b ih =>
    intro s n hb h1 h2
    have hc := hb c (by simp)
    have := ih (256 * s + c) (n + 1) (fun z hz => hb z (by simp [hz])) (by omega) (by rw [Int.pow_succ]; omega)
    simp only [List.length_cons, M.valS]
    rwa [show n + (b.length + 1) = n + 1 + b.length by omega]
theorem spec_SumOf_w (u : Nat) : ∀ (p b : List Int) (i : Nat) (s : Int) (n : Nat), M.isBytes b → 0 ≤ s → s < 256 ^ n * 2 → n + b.length ≤ 6 →
    wlist (spec_SumOf_l2_f u p) (spec_SumOf_l2_b u p) b i s = spec_SumOf_j1 u p (M.valS b s) := by
  intro p b
  induction b with
  | nil => intros; rfl
  | cons c b ih =>
    intro i s n hb h1 h2 h3
    have hc := hb c (by simp)
    simp only [List.length_cons] at h3
    have hp : (256 : Int) ^ n ≤ 1099511627776 := by
      rcases (show n = 0 ∨ n = 1 ∨ n = 2 ∨ n = 3 ∨ n = 4 ∨ n = 5 by omega) with rfl | rfl | rfl | rfl | rfl | rfl <;> decide
    simp only [wlist, spec_SumOf_l2_b]
    rw [wrap_i64 (by omega) (by omega), bMul_i64 (by omega) (by omega), bAdd_i64 (by omega) (by omega)]
    exact ih (i + 1) _ (n + 1) (fun z hz => hb z (by simp [hz])) (by omega) (by rw [Int.pow_succ]; omega) (by omega)
theorem spec_SumOf_eq {u : Nat} (hu : 1099511627776 ≤ u) {b : List Int} (hb : M.isBytes b) (hl : b.length ≤ 1073741824) : spec_SumOf u b = some (M.sumOf b) := by
  unfold spec_SumOf M.sumOf
  by_cases h : 6 < b.length
  · have : (b.length : Int) > 6 := by omega
    simp [h, this]
  · have : ¬ ((b.length : Int) > 6) := by omega
    simp only [this, decide_false, cond_false, h, if_false]
    rw [spec_SumOf_l2_w u b 1 u (by omega) (by omega), spec_SumOf_w u b b 0 1 0 hb (by omega) (by decide) (by omega)]
    unfold spec_SumOf_j1
    rw [spec_WeakOf_eq hu hb hl]
    rfl
/-! ### manifests -/
def M.sumFit (size len : Int) (i : Nat) (s : Sum) : Bool := (M.bytesOf s.fS).2 && ((M.bytesOf s.fS).1.length == (M.spanOf size len i).2) && (M.weakOf (M.bytesOf s.fS).1 == s.fW)
def M.sumsFit (size len : Int) : List Sum → Nat → Bool
  | [], _ => true
  | s :: l, i => M.sumFit size len i s && M.sumsFit size len l (i + 1)
def M.manOk (m : Manifest) : Bool :=
  if m.fGen = 0 then m.fSize == 0 && m.fLen == 0 && m.fSums.length == 0
  else M.within m.fGen 1 1000000 && M.sizeOk m.fSize m.fLen && ((m.fSums.length : Int) == M.blocks m.fSize m.fLen) && M.sumsFit m.fSize m.fLen m.fSums 0
theorem ne_beq (a b : Int) : (a != b) = !(a == b) := rfl
theorem impl_ManOk_w {u : Nat} (hu : 1099511627776 ≤ u) (m : Manifest) : ∀ (l : List Sum) (i : Nat), wlist (impl_ManOk_l3_f u m) (impl_ManOk_l3_b u m) l i () = some (M.sumsFit m.fSize m.fLen l i) := by
  intro l
  induction l with
  | nil => intro i; rfl
  | cons s l ih =>
    intro i
    have hb := bytesOf_bytes s.fS
    simp only [wlist, impl_ManOk_l3_b, impl_BytesOf_eq hu, impl_SpanOf_eq, Option.bind_some, M.sumsFit, M.sumFit, impl_ManOk_j4, ih, impl_WeakOf_eq hu hb.1 (show _ ≤ _ by omega), ne_beq]
    cases (M.bytesOf s.fS).2 <;> cases (((M.bytesOf s.fS).1.length : Int) == (M.spanOf m.fSize m.fLen ↑i).2) <;> cases (M.weakOf (M.bytesOf s.fS).1 == s.fW) <;> simp
theorem spec_ManOk_w {u : Nat} (hu : 1099511627776 ≤ u) (m : Manifest) : ∀ (l : List Sum) (i : Nat), l = m.fSums.drop i → wlist (spec_ManOk_l3_f u m) (spec_ManOk_l3_b u m) l i () = some (M.sumsFit m.fSize m.fLen l i) := by
  intro l
  induction l with
  | nil => intro i _; rfl
  | cons s l ih =>
    intro i hd
    have hb := bytesOf_bytes s.fS
    have hx : m.fSums[i]? = some s := by
      have := congrArg List.head? hd
      simpa [List.head?_drop] using this.symm
    have hl : l = m.fSums.drop (i + 1) := by
      have := congrArg List.tail hd
      simpa [List.tail_drop] using this
    simp only [wlist, spec_ManOk_l3_b, spec_BytesOf_eq hu, spec_SpanOf_eq, Option.bind_some, M.sumsFit, M.sumFit, spec_ManOk_j4, ih (i + 1) hl, spec_SumOf_eq hu hb.1 (show _ ≤ _ by omega), ne_beq, idx_nat, hx]
    cases h : (M.bytesOf s.fS).2 with
    | false => simp
    | true =>
      have h2 := sumOf_bytesOf (s := s.fS) (b := (M.bytesOf s.fS).1) (by rw [← h])
      rw [h2]
      have h3 : (([M.weakOf (M.bytesOf s.fS).1, s.fS] : List Int) == [s.fW, s.fS]) = (M.weakOf (M.bytesOf s.fS).1 == s.fW) := by simp
      simp only [h3]
      cases (((M.bytesOf s.fS).1.length : Int) == (M.spanOf m.fSize m.fLen ↑i).2) <;> cases (M.weakOf (M.bytesOf s.fS).1 == s.fW) <;> simp
theorem bool_and_eq (a b : Bool) : (a && b) = bif a then b else false := by cases a <;> rfl
theorem impl_ManOk_eq {u : Nat} (hu : 1099511627776 ≤ u) (m : Manifest) (hl : m.fSums.length ≤ 1073741824) : impl_ManOk u m = some (M.manOk m) := by
  unfold impl_ManOk M.manOk impl_isZeroMan impl_ManOk_j1
  simp only [impl_within_eq, impl_SizeOk_eq, impl_Blocks_eq, Option.bind_some, ne_beq, impl_ManOk_l3_w u m () u (by omega) (by omega), impl_ManOk_w hu]
  have e0 : (((m.fSums.length : Int)) == 0) = (m.fSums.length == 0) := by rw [Bool.eq_iff_iff]; simp
  by_cases h : m.fGen = 0
  · have : M.within m.fGen 1 1000000 = false := by rw [h]; rfl
    simp only [h, if_true, beq_self_eq_true, cond_true, e0] at this ⊢
    cases (m.fSize == 0) <;> cases (m.fLen == 0) <;> cases (m.fSums.length == 0) <;> simp [this]
  · have : (m.fGen == 0) = false := by simpa using h
    simp only [h, if_false, this, cond_false, Option.bind_some]
    cases M.within m.fGen 1 1000000 <;> cases M.sizeOk m.fSize m.fLen <;> cases ((m.fSums.length : Int) == M.blocks m.fSize m.fLen) <;> simp
theorem spec_ManOk_eq {u : Nat} (hu : 1099511627776 ≤ u) (m : Manifest) (hl : m.fSums.length ≤ 1073741824) : spec_ManOk u m = some (M.manOk m) := by
  unfold spec_ManOk M.manOk spec_ManOk_j1
  simp only [spec_l1In_eq, spec_SizeOk_eq, spec_Blocks_eq, Option.bind_some, ne_beq, spec_ManOk_l3_w u m () u (by omega) (by omega), spec_ManOk_w hu m m.fSums 0 (by simp)]
  have e0 : (((m.fSums.length : Int)) == 0) = (m.fSums.length == 0) := by rw [Bool.eq_iff_iff]; simp
  by_cases h : m.fGen = 0
  · simp only [h, if_true, beq_self_eq_true, cond_true, e0]
    cases (m.fSize == 0) <;> cases (m.fLen == 0) <;> cases (m.fSums.length == 0) <;> simp
  · have : (m.fGen == 0) = false := by simpa using h
    simp only [h, if_false, this, cond_false, Option.bind_some]
    cases M.within m.fGen 1 1000000 <;> cases M.sizeOk m.fSize m.fLen <;> cases ((m.fSums.length : Int) == M.blocks m.fSize m.fLen) <;> simp
/-! ### numbers as bytes -/
def M.var : Nat → Int → List Int
  | 0, n => [n % 256]
  | k + 1, n => if n ≤ 127 then [n % 256] else (n % 128 + 128) :: M.var k (n / 128)
def M.putVar (b : List Int) (n : Int) : List Int := if M.within n 0 1000000000000 then b ++ M.var 9 n else b
theorem or128 : ∀ a : Nat, a < 256 → (a ||| 128) = a % 128 + 128 := by decide +kernel
theorem bOr_u8 (a : Int) (h1 : 0 ≤ a) (h2 : a < 256) : bOr .u8 a 128 = a % 128 + 128 := by
  unfold bOr
  have e : (BitVec.ofInt (IntKind.bits .u8) a ||| BitVec.ofInt (IntKind.bits .u8) 128).toNat = (a % 128 + 128).toNat := by
    change (BitVec.ofInt 8 a ||| BitVec.ofInt 8 128).toNat = _
    rw [BitVec.toNat_or, BitVec.toNat_ofInt, BitVec.toNat_ofInt, show ((128 : Int) % ((2 ^ 8 : Nat) : Int)).toNat = 128 by decide, or128 _ (by omega)]
    omega
  rw [e, wrap_u8]; omega
theorem bAnd127 (a : Int) : bAnd .i64 a 127 = a % 128 := by
  unfold bAnd
  have e : (BitVec.ofInt (IntKind.bits .i64) a &&& BitVec.ofInt (IntKind.bits .i64) 127).toNat = (a % 128).toNat := by
    change (BitVec.ofInt 64 a &&& BitVec.ofInt 64 127).toNat = (a % 128).toNat
    rw [BitVec.toNat_and, BitVec.toNat_ofInt, BitVec.toNat_ofInt, show ((127 : Int) % ((2 ^ 64 : Nat) : Int)).toNat = 2 ^ 7 - 1 by decide, Nat.and_two_pow_sub_one_eq_mod]
    omega
  rw [e]
  exact (wrap_i64 (by omega) (by omega)).trans (by omega)
theorem bOr_i64 (a : Int) (h1 : 0 ≤ a) (h2 : a < 256) : bOr .i64 a 128 = a % 128 + 128 := by
  unfold bOr
  have e : (BitVec.ofInt (IntKind.bits .i64) a ||| BitVec.ofInt (IntKind.bits .i64) 128).toNat = (a % 128 + 128).toNat := by
    change (BitVec.ofInt 64 a ||| BitVec.ofInt 64 128).toNat = _
    rw [BitVec.toNat_or, BitVec.toNat_ofInt, BitVec.toNat_ofInt, show ((128 : Int) % ((2 ^ 64 : Nat) : Int)).toNat = 128 by decide, show (a % ((2 ^ 64 : Nat) : Int)).toNat = a.toNat by omega, or128 _ (by omega)]
    omega
  rw [e]
  exact (wrap_i64 (by omega) (by omega)).trans (by omega)
theorem var_length : ∀ (k : Nat) (n : Int), (M.var k n).length ≤ k + 1 := by
  intro k
  induction k with
  | zero => intro n; simp [M.var]
  | succ k ih =>
    intro n
    unfold M.var
    have := ih (n / 128)
    split <;> simp <;> omega
theorem var_bytes : ∀ (k : Nat) (n : Int), M.isBytes (M.var k n) := by
  intro k
  induction k with
  | zero => intro n x hx; simp [M.var] at hx; omega
  | succ k ih =>
    intro n x hx
    unfold M.var at hx
    split at hx
    · simp at hx; omega
    · rcases List.mem_cons.1 hx with h | h
      · omega
      · exact ih _ x h
theorem isBytes_app {a b : List Int} (h : M.isBytes a) (k : M.isBytes b) : M.isBytes (a ++ b) := by
  intro x hx
  rcases List.mem_append.1 hx with g | g
  · exact h x g
  · exact k x g
theorem impl_appendVar_l2_eq (u : Nat) : ∀ (j k : Nat) (n : Int) (b : List Int), n < 128 ^ (j + 1) → j < k → b.length + j ≤ 1099511627776 → impl_appendVar_l2 u k b n = some (b ++ M.var j n) := by
  intro j
  induction j with
  | zero =>
    intro k n b h1 h2 h3
    obtain ⟨k, rfl⟩ : ∃ i, k = i + 1 := ⟨k - 1, by omega⟩
    unfold impl_appendVar_l2
    have : ¬ (n ≥ 128) := by simp at h1; omega
    simp only [this, decide_false, cond_false, impl_appendVar_j1, M.var, wrap_u8]
    rw [chk_dec (by simp; omega)]; rfl
  | succ j ih =>
    intro k n b h1 h2 h3
    obtain ⟨k, rfl⟩ : ∃ i, k = i + 1 := ⟨k - 1, by omega⟩
    unfold impl_appendVar_l2
    by_cases h : n ≥ 128
    · have h' : ¬ n ≤ 127 := by omega
      simp only [h, decide_true, cond_true, M.var, h', if_false, wrap_u8, bShr7]
      rw [chk_dec (by simp; omega), bOr_u8 _ (by omega) (by omega)]
      simp only [Option.bind_some]
      rw [ih k (n / 128) _ (by rw [Int.pow_succ] at h1; omega) (by omega) (by simp; omega), show n % 256 % 128 = n % 128 by omega]
      simp
    · have h' : n ≤ 127 := by omega
      simp only [h, decide_false, cond_false, M.var, h', if_true, impl_appendVar_j1, wrap_u8]
      rw [chk_dec (by simp; omega)]; rfl
theorem spec_l6PutSum_l2_eq (u : Nat) : ∀ (j k : Nat) (n : Int) (b : List Int), n < 128 ^ (j + 1) → j < k → b.length + j ≤ 1099511627776 → spec_l6PutSum_l2 u k b n = some (b ++ M.var j n) := by
  intro j
  induction j with
  | zero =>
    intro k n b h1 h2 h3
    obtain ⟨k, rfl⟩ : ∃ i, k = i + 1 := ⟨k - 1, by omega⟩
    unfold spec_l6PutSum_l2
    have : ¬ (n > 127) := by simp at h1; omega
    simp only [this, decide_false, cond_false, spec_l6PutSum_j1, M.var, wrap_u8]
    rw [chk_dec (by simp; omega)]; rfl
  | succ j ih =>
    intro k n b h1 h2 h3
    obtain ⟨k, rfl⟩ : ∃ i, k = i + 1 := ⟨k - 1, by omega⟩
    unfold spec_l6PutSum_l2
    by_cases h : n > 127
    · have h' : ¬ n ≤ 127 := by omega
      simp only [h, decide_true, cond_true, M.var, h', if_false, wrap_u8, bShr7, bAnd127]
      rw [chk_dec (by simp; omega), bOr_i64 _ (by omega) (by omega)]
      simp only [Option.bind_some]
      rw [ih k (n / 128) _ (by rw [Int.pow_succ] at h1; omega) (by omega) (by simp; omega), show (n % 128 % 128 + 128) % 256 = n % 128 + 128 by omega]
      simp
    · have h' : n ≤ 127 := by omega
      simp only [h, decide_false, cond_false, M.var, h', if_true, spec_l6PutSum_j1, wrap_u8]
      rw [chk_dec (by simp; omega)]; rfl
theorem spec_PutVar_l2_eq (u : Nat) : ∀ (j k : Nat) (n : Int) (b : List Int), n < 128 ^ (j + 1) → j < k → b.length + j ≤ 1099511627776 → spec_PutVar_l2 u k n b = some (b ++ M.var j n) := by
  intro j
  induction j with
  | zero =>
    intro k n b h1 h2 h3
    obtain ⟨k, rfl⟩ : ∃ i, k = i + 1 := ⟨k - 1, by omega⟩
    unfold spec_PutVar_l2
    have : ¬ (n > 127) := by simp at h1; omega
    simp only [this, decide_false, cond_false, spec_PutVar_j1, M.var, wrap_u8]
    rw [chk_dec (by simp; omega)]; rfl
  | succ j ih =>
    intro k n b h1 h2 h3
    obtain ⟨k, rfl⟩ : ∃ i, k = i + 1 := ⟨k - 1, by omega⟩
    unfold spec_PutVar_l2
    by_cases h : n > 127
    · have h' : ¬ n ≤ 127 := by omega
      simp only [h, decide_true, cond_true, M.var, h', if_false, wrap_u8, bShr7, bAnd127]
      rw [chk_dec (by simp; omega), bOr_i64 _ (by omega) (by omega)]
      simp only [Option.bind_some]
      rw [ih k (n / 128) _ (by rw [Int.pow_succ] at h1; omega) (by omega) (by simp; omega), show (n % 128 % 128 + 128) % 256 = n % 128 + 128 by omega]
      simp
    · have h' : n ≤ 127 := by omega
      simp only [h, decide_false, cond_false, M.var, h', if_true, spec_PutVar_j1, wrap_u8]
      rw [chk_dec (by simp; omega)]; rfl
theorem p128 : (128 : Int) ^ (9 + 1) = 1180591620717411303424 := by decide
theorem impl_appendVar_eq {u : Nat} (hu : 1099511627776 ≤ u) {b : List Int} {n : Int} (hl : b.length ≤ 1073741824) (hn : n ≤ 9223372036854775807) : impl_appendVar u b n = some (b ++ M.var 9 n) :=
  impl_appendVar_l2_eq u 9 u n b (by rw [p128]; omega) (by omega) (by omega)
theorem spec_l6PutSum_eq {u : Nat} (hu : 1099511627776 ≤ u) {b : List Int} {n : Int} (hl : b.length ≤ 1073741824) (hn : n ≤ 9223372036854775807) : spec_l6PutSum u b n = some (b ++ M.var 9 n) :=
  spec_l6PutSum_l2_eq u 9 u n b (by rw [p128]; omega) (by omega) (by omega)
theorem impl_cloned_eq (u : Nat) {b : List Int} (hl : b.length ≤ 1073741824) : impl_cloned u b = some b := by
  unfold impl_cloned
  rw [chk_dec (by simp; omega), chk_dec (by simp; omega)]
  simp [chk]
theorem impl_PutVar_eq {u : Nat} (hu : 1099511627776 ≤ u) {b : List Int} {n : Int} (hl : b.length ≤ 1073741824) : impl_PutVar u b n = some (M.putVar b n) := by
  unfold impl_PutVar M.putVar
  simp only [impl_cloned_eq u hl, impl_within_eq, Option.bind_some]
  cases h : M.within n 0 1000000000000 with
  | false => simp
  | true => have := within_t h; simp [impl_appendVar_eq hu hl (show n ≤ 9223372036854775807 by omega)]
theorem spec_PutVar_eq {u : Nat} (hu : 1099511627776 ≤ u) {b : List Int} {n : Int} (hl : b.length ≤ 1073741824) : spec_PutVar u b n = some (M.putVar b n) := by
  unfold spec_PutVar M.putVar
  rw [chk_dec (by simp; omega)]
  simp only [spec_l1In_eq, Option.bind_some, List.nil_append]
  cases h : M.within n 0 1000000000000 with
  | false => simp
  | true => have := within_t h; simp [spec_PutVar_l2_eq u 9 u n b (by rw [p128]; omega) (by omega) (by omega)]
theorem putVar_length (b : List Int) (n : Int) : (M.putVar b n).length ≤ b.length + 10 := by
  unfold M.putVar
  have := var_length 9 n
  split <;> simp <;> omega
def M.putSums (b : List Int) : List Sum → List Int
  | [] => b
  | s :: l => M.putSums (b ++ M.var 9 s.fS) l
def M.putMan (b : List Int) (m : Manifest) : List Int := if M.manOk m then M.putSums (M.putVar (M.putVar (M.putVar b m.fGen) m.fSize) m.fLen) m.fSums else b
def M.manWf (m : Manifest) : Prop := ∀ s ∈ m.fSums, s.fS ≤ 9223372036854775807
theorem manOk_len {m : Manifest} (h : M.manOk m = true) : m.fSums.length ≤ 40 := by
  unfold M.manOk at h
  split at h
  · simp only [Bool.and_eq_true, beq_iff_eq] at h
    have := h.2
    omega
  · have := blocks_range m.fSize m.fLen
    simp only [Bool.and_eq_true, beq_iff_eq] at h
    omega
theorem impl_PutMan_w {u : Nat} (hu : 1099511627776 ≤ u) (m : Manifest) : ∀ (l : List Sum) (i : Nat) (b : List Int), (∀ s ∈ l, s.fS ≤ 9223372036854775807) → b.length + 10 * l.length ≤ 1073741824 →
    wlist (impl_PutMan_l2_f u m) (impl_PutMan_l2_b u m) l i b = some (M.putSums b l) := by
  intro l
  induction l with
  | nil => intros; rfl
  | cons s l ih =>
    intro i b h1 h2
    simp only [List.length_cons] at h2
    have h3 := var_length 9 s.fS
    simp only [wlist, impl_PutMan_l2_b, impl_appendVar_eq hu (show b.length ≤ 1073741824 by omega) (h1 s (by simp)), Option.bind_some, M.putSums]
    exact ih (i + 1) _ (fun z hz => h1 z (by simp [hz])) (by simp; omega)
theorem spec_PutMan_w {u : Nat} (hu : 1099511627776 ≤ u) (m : Manifest) : ∀ (l : List Sum) (i : Nat) (b : List Int), (∀ s ∈ l, s.fS ≤ 9223372036854775807) → b.length + 10 * l.length ≤ 1073741824 →
    wlist (spec_PutMan_l2_f u m) (spec_PutMan_l2_b u m) l i b = some (M.putSums b l) := by
  intro l
  induction l with
  | nil => intros; rfl
  | cons s l ih =>
    intro i b h1 h2
    simp only [List.length_cons] at h2
    have h3 := var_length 9 s.fS
    simp only [wlist, spec_PutMan_l2_b, spec_l6PutSum_eq hu (show b.length ≤ 1073741824 by omega) (h1 s (by simp)), Option.bind_some, M.putSums]
    exact ih (i + 1) _ (fun z hz => h1 z (by simp [hz])) (by simp; omega)
theorem impl_PutMan_eq {u : Nat} (hu : 1099511627776 ≤ u) {b : List Int} {m : Manifest} (hl : b.length ≤ 536870912) (hm : m.fSums.length ≤ 1073741824) (hw : M.manWf m) : impl_PutMan u b m = some (M.putMan b m) := by
  unfold impl_PutMan M.putMan
  have h1 := putVar_length b m.fGen
  have h2 := putVar_length (M.putVar b m.fGen) m.fSize
  have h3 := putVar_length (M.putVar (M.putVar b m.fGen) m.fSize) m.fLen
  rw [impl_ManOk_eq hu m hm]
  cases h : M.manOk m with
  | false => simp [impl_cloned_eq u (show b.length ≤ 1073741824 by omega)]
  | true =>
    have h4 := manOk_len h
    simp only [Option.bind_some, Bool.not_true, cond_false, if_true]
    rw [impl_PutVar_eq hu (by omega)]; simp only [Option.bind_some]
    rw [impl_PutVar_eq hu (by omega)]; simp only [Option.bind_some]
    rw [impl_PutVar_eq hu (by omega)]; simp only [Option.bind_some]
    rw [impl_PutMan_l2_w u m _ u (by omega) (by omega), impl_PutMan_w hu m _ _ _ hw (by omega)]
theorem spec_PutMan_eq {u : Nat} (hu : 1099511627776 ≤ u) {b : List Int} {m : Manifest} (hl : b.length ≤ 536870912) (hm : m.fSums.length ≤ 1073741824) (hw : M.manWf m) : spec_PutMan u b m = some (M.putMan b m) := by
  unfold spec_PutMan M.putMan
  have h1 := putVar_length b m.fGen
  have h2 := putVar_length (M.putVar b m.fGen) m.fSize
  have h3 := putVar_length (M.putVar (M.putVar b m.fGen) m.fSize) m.fLen
  rw [chk_dec (by simp; omega), spec_ManOk_eq hu m hm]
  simp only [List.nil_append, Option.bind_some]
  cases h : M.manOk m with
  | false => simp
  | true =>
    have h4 := manOk_len h
    simp only [Option.bind_some, Bool.not_true, cond_false, if_true]
    rw [spec_PutVar_eq hu (by omega)]; simp only [Option.bind_some]
    rw [spec_PutVar_eq hu (by omega)]; simp only [Option.bind_some]
    rw [spec_PutVar_eq hu (by omega)]; simp only [Option.bind_some]
    rw [spec_PutMan_l2_w u m _ u (by omega) (by omega), spec_PutMan_w hu m _ _ _ hw (by omega)]
def M.manBytes (m : Manifest) : Int := (M.putMan [] m).length
theorem impl_ManBytes_eq {u : Nat} (hu : 1099511627776 ≤ u) {m : Manifest} (hm : m.fSums.length ≤ 1073741824) (hw : M.manWf m) : impl_ManBytes u m = some (M.manBytes m) := by
  unfold impl_ManBytes
  rw [impl_PutMan_eq hu (by simp) hm hw]; rfl
theorem spec_ManBytes_eq {u : Nat} (hu : 1099511627776 ≤ u) {m : Manifest} (hm : m.fSums.length ≤ 1073741824) (hw : M.manWf m) : spec_ManBytes u m = some (M.manBytes m) := by
  unfold spec_ManBytes
  rw [spec_PutMan_eq hu (by simp) hm hw]; rfl
/-! ### the laws' helpers -/
/-- A copy made place by place. -/
theorem wlist_copy {α ρ : Type} {fin : List α → Option ρ} {body : α → Nat → List α → (List α → Option ρ) → Option ρ} {xs : List α} (hb : ∀ x i s k, x ∈ xs → i < s.length → body x i s k = k (s.set i x)) :
    ∀ (ys : List α) (i : Nat) (s : List α), ys = xs.drop i → s.length = xs.length → s.take i = xs.take i → wlist fin body ys i s = fin xs := by
  intro ys
  induction ys with
  | nil =>
    intro i s h1 h2 h3
    simp only [wlist]
    have : xs.length ≤ i := by have := congrArg List.length h1; simp at this; omega
    rw [List.take_of_length_le (by omega), List.take_of_length_le this] at h3
    rw [h3]
  | cons y ys ih =>
    intro i s h1 h2 h3
    have hlt : i < xs.length := by have := congrArg List.length h1; simp at this; omega
    have hx : xs[i]? = some y := by have := congrArg List.head? h1; simpa [List.head?_drop] using this.symm
    have hys : ys = xs.drop (i + 1) := by have := congrArg List.tail h1; simpa [List.tail_drop] using this
    simp only [wlist]
    rw [hb y i s _ (List.mem_of_getElem? hx) (by omega)]
    refine ih (i + 1) _ hys (by simp [h2]) ?_
    rw [List.take_add_one, List.take_set_of_le (Nat.le_refl i), h3, List.getElem?_set_self (by omega), List.take_add_one, hx]
theorem wlist_copy0 {α ρ : Type} {fin : List α → Option ρ} {body : α → Nat → List α → (List α → Option ρ) → Option ρ} {xs : List α} (z : α) (hb : ∀ x i s k, x ∈ xs → i < s.length → body x i s k = k (s.set i x)) :
    wlist fin body xs 0 (List.replicate xs.length z) = fin xs := wlist_copy hb xs 0 _ (by simp) (by simp) (by simp)
/-- A comparison place by place, of a list with itself. -/
theorem wlist_all {α ρ : Type} {fin : Unit → Option ρ} {body : α → Nat → Unit → (Unit → Option ρ) → Option ρ} {xs : List α} (hb : ∀ x i k, xs[i]? = some x → body x i () k = k ()) :
    ∀ (ys : List α) (i : Nat), ys = xs.drop i → wlist fin body ys i () = fin () := by
  intro ys
  induction ys with
  | nil => intro i _; rfl
  | cons y ys ih =>
    intro i h1
    have hx : xs[i]? = some y := by have := congrArg List.head? h1; simpa [List.head?_drop] using this.symm
    have hys : ys = xs.drop (i + 1) := by have := congrArg List.tail h1; simpa [List.tail_drop] using this
    simp only [wlist]
    rw [hb y i _ hx]
    exact ih (i + 1) hys
theorem chk_len (n : Nat) : chk (decide (0 ≤ (n : Int)) && ((n : Int) == 0 || (n : Int) == (n : Int))) = some () := by simp [chk]
theorem laws_toSumS_eq {u : Nat} (hu : 1099511627776 ≤ u) {xs : List Sum} (hl : xs.length ≤ 1048576) : laws_toSumS u xs = some xs := by
  unfold laws_toSumS
  rw [chk_len, chk_dec (by rw [Int.toNat_natCast]; omega)]
  simp only [Option.bind_some, Int.toNat_natCast]
  rw [laws_toSumS_l2_w u xs _ u (by omega) (by omega), wlist_copy0]
  · rfl
  · intro x i s k hx hi
    unfold laws_toSumS_l2_b laws_toSum
    rw [idx_nat, List.getElem?_eq_getElem hi]; simp
theorem laws_toManifest_eq {u : Nat} (hu : 1099511627776 ≤ u) {m : Manifest} (hl : m.fSums.length ≤ 1048576) : laws_toManifest u m = some m := by
  unfold laws_toManifest
  rw [laws_toSumS_eq hu hl]; rfl
theorem laws_eqSum_eq (u : Nat) (s : Sum) : laws_eqSum u s s = some true := by simp [laws_eqSum]
theorem laws_eqSumS_eq {u : Nat} (hu : 1099511627776 ≤ u) {xs : List Sum} (hl : xs.length ≤ 1048576) : laws_eqSumS u xs xs = some true := by
  unfold laws_eqSumS
  simp only [bne_self_eq_false, cond_false]
  rw [laws_eqSumS_l2_w u xs xs () u (by omega) (by omega), wlist_all (xs := xs) _ xs 0 (by simp)]
  · rfl
  · intro x i k hx
    unfold laws_eqSumS_l2_b
    rw [idx_nat, hx]; simp [laws_eqSum_eq]
theorem laws_eqManifest_eq {u : Nat} (hu : 1099511627776 ≤ u) {m : Manifest} (hl : m.fSums.length ≤ 1048576) : laws_eqManifest u m m = some true := by
  unfold laws_eqManifest
  simp [laws_eqSumS_eq hu hl]
theorem laws_szSumS_eq (u : Nat) {xs : List Sum} {n : Int} (h0 : 0 ≤ n) (h1 : n ≤ 1048576) (hl : xs.length ≤ 9223372036854775807) : ∃ r, laws_szSumS u xs n = some r ∧ r ≤ n ∧ (0 ≤ r → xs.length ≤ n ∧ r = n - xs.length) := by
  unfold laws_szSumS
  rw [bSub_i64 (by omega) (by omega)]
  by_cases h : n - (xs.length : Int) < 0
  · refine ⟨-1, by simp [h], by omega, by omega⟩
  · refine ⟨n - xs.length, by simp [h], by omega, by omega⟩
theorem laws_szManifest_eq (u : Nat) {m : Manifest} {n : Int} (h0 : 0 ≤ n) (h1 : n ≤ 1048576) (hl : m.fSums.length ≤ 9223372036854775807) : ∃ r, laws_szManifest u m n = some r ∧ r ≤ n ∧ (0 ≤ r → m.fSums.length ≤ n) := by
  unfold laws_szManifest
  obtain ⟨r, h2, h3, h4⟩ := laws_szSumS_eq u h0 h1 hl
  rw [h2]
  simp only [Option.bind_some]
  by_cases h : r < 0
  · exact ⟨-1, by simp [h], by omega, by omega⟩
  · exact ⟨r, by simp [h], by omega, fun _ => (h4 (by omega)).1⟩
theorem laws_FnExactManBytes_eq {u : Nat} (hu : 1099511627776 ≤ u) {m : Manifest} (hl : m.fSums.length ≤ 9223372036854775807) (hw : M.manWf m) : laws_FnExactManBytes u m = some true := by
  unfold laws_FnExactManBytes
  obtain ⟨r, h1, h2, h3⟩ := laws_szManifest_eq u (m := m) (n := 1048576) (by omega) (by omega) hl
  rw [h1]
  simp only [Option.bind_some]
  by_cases h : r < 0
  · simp [h]
  · have h4 := h3 (by omega)
    simp only [h, decide_false, cond_false, laws_toManifest_eq hu (show m.fSums.length ≤ 1048576 by omega), Option.bind_some, spec_ManBytes_eq hu (show m.fSums.length ≤ 1073741824 by omega) hw, impl_ManBytes_eq hu (show m.fSums.length ≤ 1073741824 by omega) hw,
      bne_self_eq_false, laws_eqManifest_eq hu (show m.fSums.length ≤ 1048576 by omega), Bool.not_true]
theorem manBytes_law (m : Manifest) (h : Manifest.wf m ∧ True) : laws_FnExactManBytes 1099511627776 m = some true := by
  obtain ⟨⟨_, _, _, ⟨h1, h2⟩, _⟩, _⟩ := h
  exact laws_FnExactManBytes_eq (Nat.le_refl _) h1 (fun s hs => (h2 s hs).2.1.2)
end Go.Tm.Pu
