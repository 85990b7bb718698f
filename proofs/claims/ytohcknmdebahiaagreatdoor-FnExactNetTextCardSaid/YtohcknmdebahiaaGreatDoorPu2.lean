/- Plain laws for the laws' helpers: sizes, copies, comparisons. -/
import Derived.Test.YtohcknmdebahiaaGreatDoorPu1
set_option linter.unusedVariables false
set_option linter.unusedSimpArgs false
namespace Go.Tm.Pu
theorem chk_len (n : Nat) : chk (decide (0 ≤ (n : Int)) && ((n : Int) == 0 || (n : Int) == (n : Int))) = some () := by simp [chk]
/-- A copy made place by place. -/
theorem wlist_copy {α ρ : Type} {fin : List α → Option ρ} {body : α → Nat → List α → (List α → Option ρ) → Option ρ} {xs : List α} (hb : ∀ x i s k, x ∈ xs → i < s.length → body x i s k = k (s.set i x)) :
    ∀ (ys : List α) (i : Nat) (s : List α), ys = xs.drop i → s.length = xs.length → s.take i = xs.take i → wlist fin body ys i s = fin xs := by
  intro ys
  induction ys with
  | nil =>
    intro i s h1 h2 h3
    simp only [wlist]
    have : xs.length ≤ i := by have := congrArg List.length h1; simp at this; omega
    rw [List.take_of_length_le (by omega), List.take_of_length_le this] at h3
    rw [h3]
  | cons y ys ih =>
    intro i s h1 h2 h3
    have hlt : i < xs.length := by have := congrArg List.length h1; simp at this; omega
    have hx : xs[i]? = some y := by have := congrArg List.head? h1; simpa [List.head?_drop] using this.symm
    have hys : ys = xs.drop (i + 1) := by have := congrArg List.tail h1; simpa [List.tail_drop] using this
    simp only [wlist]
    rw [hb y i s _ (List.mem_of_getElem? hx) (by omega)]
    refine ih (i + 1) _ hys (by simp [h2]) ?_
    rw [List.take_add_one, List.take_set_of_le (Nat.le_refl i), h3, List.getElem?_set_self (by omega), List.take_add_one, hx]
theorem wlist_copy0 {α ρ : Type} {fin : List α → Option ρ} {body : α → Nat → List α → (List α → Option ρ) → Option ρ} {xs : List α} (z : α) (hb : ∀ x i s k, x ∈ xs → i < s.length → body x i s k = k (s.set i x)) :
    wlist fin body xs 0 (List.replicate xs.length z) = fin xs := wlist_copy hb xs 0 _ (by simp) (by simp) (by simp)
/-- A comparison place by place, of a list with itself. -/
theorem wlist_all {α ρ : Type} {fin : Unit → Option ρ} {body : α → Nat → Unit → (Unit → Option ρ) → Option ρ} {xs : List α} (hb : ∀ x i k, xs[i]? = some x → body x i () k = k ()) :
    ∀ (ys : List α) (i : Nat), ys = xs.drop i → wlist fin body ys i () = fin () := by
  intro ys
  induction ys with
  | nil => intro i _; rfl
  | cons y ys ih =>
    intro i h1
    have hx : xs[i]? = some y := by have := congrArg List.head? h1; simpa [List.head?_drop] using this.symm
    have hys : ys = xs.drop (i + 1) := by have := congrArg List.tail h1; simpa [List.tail_drop] using this
    simp only [wlist]
    rw [hb y i _ hx]
    exact ih (i + 1) hys
/-- How much a list holds. -/
def sumL {α : Type} (f : α → Nat) : List α → Nat
  | [] => 0
  | x :: xs => f x + sumL f xs
def bulkL {α : Type} (f : α → Nat) (xs : List α) : Nat := xs.length + sumL f xs
theorem sumL_mem {α : Type} {f : α → Nat} {xs : List α} {x : α} (h : x ∈ xs) : f x ≤ sumL f xs := by
  induction xs with
  | nil => cases h
  | cons y ys ih =>
    simp only [sumL]
    rcases List.mem_cons.1 h with rfl | h
    · omega
    · have := ih h; omega
theorem bulkL_mem {α : Type} {f : α → Nat} {xs : List α} {x : α} (h : x ∈ xs) : f x ≤ bulkL f xs := by
  have := sumL_mem (f := f) h; unfold bulkL; omega
theorem bulkL_len {α : Type} {f : α → Nat} (xs : List α) : xs.length ≤ bulkL f xs := by unfold bulkL; omega
/-- What is left of n. -/
def leftI (n : Int) (b : Nat) : Int := if (b : Int) ≤ n then n - b else -1
theorem leftI_neg {n : Int} {b : Nat} (h : ¬ (b : Int) ≤ n) : leftI n b = -1 := by simp [leftI, h]
theorem leftI_pos {n : Int} {b : Nat} (h : (b : Int) ≤ n) : leftI n b = n - b := by simp [leftI, h]
/-- One size behind the other. -/
theorem left_step {n : Int} {b c : Nat} {f : Int → Option Int} (hf : ∀ r, 0 ≤ r → r ≤ n → f r = some (leftI r c)) (h0 : 0 ≤ n) :
    (bif decide (leftI n b < 0) then some (-1) else f (leftI n b)) = some (leftI n (b + c)) := by
  by_cases h : (b : Int) ≤ n
  · rw [leftI_pos h]
    have h1 : ¬ (n - (b : Int) < 0) := by omega
    simp only [h1, decide_false, cond_false]
    rw [hf _ (by omega) (by omega)]
    unfold leftI
    by_cases h2 : (c : Int) ≤ n - b
    · rw [if_pos h2, if_pos (by omega)]; congr 1; omega
    · rw [if_neg h2, if_neg (by omega)]
  · rw [leftI_neg h]
    have : ¬ (((b + c : Nat) : Int) ≤ n) := by omega
    simp [leftI, this]; omega
theorem left_last {n : Int} {b : Nat} : (bif decide (leftI n b < 0) then some (-1) else some (leftI n b)) = some (leftI n b) := by
  by_cases h : (b : Int) ≤ n
  · rw [leftI_pos h]
    have h1 : ¬ (n - (b : Int) < 0) := by omega
    simp [h1]
  · rw [leftI_neg h]; simp
theorem left_len {n : Int} {m : Nat} (h0 : 0 ≤ n) (h1 : n ≤ 1048576) (hm : m ≤ 9223372036854775807) : (bif decide (bSub .i64 n (m : Int) < 0) then some (-1) else some (bSub .i64 n (m : Int))) = some (leftI n m) := by
  rw [bSub_i64 (by omega) (by omega)]
  unfold leftI
  by_cases h : (m : Int) ≤ n
  · have : ¬ (n - (m : Int) < 0) := by omega
    simp [h, this]
  · have : n - (m : Int) < 0 := by omega
    simp [h, this]
theorem wlist_sz {α : Type} {fin : Int → Option Int} {body : α → Nat → Int → (Int → Option Int) → Option Int} {f : α → Nat} {xs : List α} (hfin : ∀ s, fin s = some s) (hb : ∀ x i s k, x ∈ xs → 0 ≤ s → s ≤ 1048576 → body x i s k = bif decide (leftI s (f x) < 0) then some (-1) else k (leftI s (f x))) :
    ∀ (ys : List α) (i : Nat) (s : Int), (∀ y ∈ ys, y ∈ xs) → 0 ≤ s → s ≤ 1048576 → wlist fin body ys i s = some (leftI s (sumL f ys)) := by
  intro ys
  induction ys with
  | nil => intro i s _ h0 h1; simp [wlist, hfin, leftI, sumL, h0]
  | cons y ys ih =>
    intro i s hm h0 h1
    simp only [wlist, sumL]
    rw [hb y i s _ (hm y (by simp)) h0 h1]
    exact left_step (fun r h2 h3 => ih (i + 1) r (fun z hz => hm z (by simp [hz])) h2 (by omega)) h0
theorem left_list {n : Int} {m c : Nat} {f : Int → Option Int} (hf : (m : Int) ≤ n → ∀ r, 0 ≤ r → r ≤ n → f r = some (leftI r c)) (h0 : 0 ≤ n) (h1 : n ≤ 1048576) (hm : m ≤ 9223372036854775807) :
    (bif decide (bSub .i64 n (m : Int) < 0) then some (-1) else f (bSub .i64 n (m : Int))) = some (leftI n (m + c)) := by
  rw [bSub_i64 (by omega) (by omega)]
  by_cases h : (m : Int) ≤ n
  · have := left_step (b := m) (hf h) h0
    rw [leftI_pos h] at this
    exact this
  · have h2 : n - (m : Int) < 0 := by omega
    have h3 : ¬ (((m + c : Nat) : Int) ≤ n) := by omega
    simp [h2, leftI, h3]; omega
end Go.Tm.Pu
