/- Plain laws of the printed pure functions: arithmetic in range, loops as walks. -/
import Derived.Test.YtohcknmdebahiaaGreatDoorTm33
import Derived.IntWalk
set_option linter.unusedVariables false
set_option linter.unusedSimpArgs false
namespace Go.Tm.Pu

theorem wrap_i64 {n : Int} (h1 : -9223372036854775808 ≤ n) (h2 : n ≤ 9223372036854775807) : IntKind.wrap .i64 n = n := Go.IntWalk.i64_in n ⟨h1, h2⟩
theorem wrap_u8 (n : Int) : IntKind.wrap .u8 n = n % 256 := by simp [IntKind.wrap, IntKind.bits, IntKind.signed]
theorem bAdd_i64 {a b : Int} (h1 : -9223372036854775808 ≤ a + b) (h2 : a + b ≤ 9223372036854775807) : bAdd .i64 a b = a + b := wrap_i64 h1 h2
theorem bSub_i64 {a b : Int} (h1 : -9223372036854775808 ≤ a - b) (h2 : a - b ≤ 9223372036854775807) : bSub .i64 a b = a - b := wrap_i64 h1 h2
theorem bMul_i64 {a b : Int} (h1 : -9223372036854775808 ≤ a * b) (h2 : a * b ≤ 9223372036854775807) : bMul .i64 a b = a * b := wrap_i64 h1 h2
theorem bAdd_succ {i : Nat} (h : i < 9223372036854775807) : bAdd .i64 (i : Int) 1 = ((i + 1 : Nat) : Int) := by
  rw [bAdd_i64 (by omega) (by omega)]; simp
theorem bRem_pos {a b : Int} (h : 0 ≤ a) : bRem .i64 a b = a % b := by
  unfold bRem; exact Int.tmod_eq_emod_of_nonneg h
theorem bQuo_pos {a b : Int} (h : 0 ≤ a) (hb : 0 < b) (h2 : a ≤ 9223372036854775807) : bQuo .i64 a b = a / b := by
  unfold bQuo
  rw [Int.tdiv_eq_ediv_of_nonneg h]
  have h3 : 0 ≤ a / b := Int.ediv_nonneg h (by omega)
  have h4 : a / b ≤ a := Int.ediv_le_self b h
  exact wrap_i64 (by omega) (by omega)
theorem bShr_k (k : IntKind) (a : Int) (n : Nat) (h : n ≤ k.bits) : bShr k a (n : Int) = a / 2 ^ n := by
  unfold bShr
  rw [show min (Int.toNat (n : Int)) k.bits = n by simp; omega]
  exact Int.fdiv_eq_ediv_of_nonneg a (by exact_mod_cast Nat.zero_le (2 ^ n))
theorem bShr7 (a : Int) : bShr .i64 a 7 = a / 128 := bShr_k .i64 a 7 (by decide)
theorem bShr8 (a : Int) : bShr .i64 a 8 = a / 256 := bShr_k .i64 a 8 (by decide)

theorem chk_dec {p : Prop} [Decidable p] (h : p) : chk (decide p) = some () := by simp [chk, h]
theorem chk_true : chk true = some () := rfl
theorem idx_nat {α : Type} (xs : List α) (i : Nat) : idx xs (i : Int) = xs[i]? := by simp [idx]
theorem idx_app {α : Type} (xs ys : List α) (y : α) : idx (xs ++ y :: ys) (xs.length : Int) = some y := by simp [idx]

/-- One round behind the other: the loop's end, its body (the way back is handed to it), how many rounds are left. -/
def walk {σ ρ : Type} (fin : σ → Option ρ) (body : Nat → σ → (σ → Option ρ) → Option ρ) : Nat → Nat → σ → Option ρ
  | 0, _, s => fin s
  | n + 1, i, s => body i s (walk fin body n (i + 1))
/-- A printed loop that counts to n is a walk. -/
theorem walk_of {σ ρ : Type} {fin : σ → Option ρ} {body : Nat → σ → (σ → Option ρ) → Option ρ} {n : Int} (L : Nat → σ → Int → Option ρ) (hn : n ≤ 9223372036854775807)
    (hL : ∀ (k : Nat) (s : σ) (i : Nat), L (k + 1) s (i : Int) = bif decide ((i : Int) < n) then body i s (fun s' => L k s' (bAdd .i64 (i : Int) 1)) else fin s) :
    ∀ (m k i : Nat) (s : σ), i + m = n.toNat ∨ (m = 0 ∧ n ≤ i) → m < k → L k s (i : Int) = walk fin body m i s := by
  intro m
  induction m with
  | zero =>
    intro k i s hi hk
    obtain ⟨k, rfl⟩ : ∃ j, k = j + 1 := ⟨k - 1, by omega⟩
    rw [hL]
    have : ¬ ((i : Int) < n) := by omega
    simp [this, walk]
  | succ m ih =>
    intro k i s hi hk
    obtain ⟨k, rfl⟩ : ∃ j, k = j + 1 := ⟨k - 1, by omega⟩
    rw [hL]
    have : (i : Int) < n := by omega
    simp only [this, decide_true, cond_true]
    show body i s _ = body i s (walk fin body m (i + 1))
    congr 1
    funext s'
    rw [bAdd_succ (by omega)]
    exact ih k (i + 1) s' (by omega) (by omega)
theorem walk_0 {σ ρ : Type} {fin : σ → Option ρ} {body : Nat → σ → (σ → Option ρ) → Option ρ} {n : Int} (L : Nat → σ → Int → Option ρ) (hn : n ≤ 9223372036854775807)
    (hL : ∀ (k : Nat) (s : σ) (i : Nat), L (k + 1) s (i : Int) = bif decide ((i : Int) < n) then body i s (fun s' => L k s' (bAdd .i64 (i : Int) 1)) else fin s)
    {k : Nat} (s : σ) (hk : n.toNat < k) : L k s 0 = walk fin body n.toNat 0 s := by
  have := walk_of L hn hL n.toNat k 0 s (by omega) hk
  simpa using this
/-- The same over a list's elements. -/
def wlist {α σ ρ : Type} (fin : σ → Option ρ) (body : α → Nat → σ → (σ → Option ρ) → Option ρ) : List α → Nat → σ → Option ρ
  | [], _, s => fin s
  | x :: xs, i, s => body x i s (wlist fin body xs (i + 1))
theorem wlist_of {α σ ρ : Type} {fin : σ → Option ρ} {body : α → Nat → σ → (σ → Option ρ) → Option ρ} {xs : List α} (L : Nat → σ → Int → Option ρ) (hn : xs.length ≤ 9223372036854775807)
    (hL : ∀ (k : Nat) (s : σ) (i : Nat), L (k + 1) s (i : Int) = bif decide ((i : Int) < (xs.length : Int)) then (idx xs (i : Int)).bind fun x => body x i s (fun s' => L k s' (bAdd .i64 (i : Int) 1)) else fin s) :
    ∀ (ys : List α) (k i : Nat) (s : σ), ys = xs.drop i → ys.length < k → L k s (i : Int) = wlist fin body ys i s := by
  intro ys
  induction ys with
  | nil =>
    intro k i s hi hk
    obtain ⟨k, rfl⟩ : ∃ j, k = j + 1 := ⟨k - 1, by omega⟩
    rw [hL]
    have : ¬ ((i : Int) < (xs.length : Int)) := by
      have := congrArg List.length hi
      simp at this
      omega
    simp [this, wlist]
  | cons y ys ih =>
    intro k i s hi hk
    obtain ⟨k, rfl⟩ : ∃ j, k = j + 1 := ⟨k - 1, by omega⟩
    rw [hL]
    have hlt : i < xs.length := by
      have := congrArg List.length hi
      simp at this
      omega
    have hx : xs[i]? = some y := by
      have := congrArg List.head? hi
      simpa [List.head?_drop] using this.symm
    have hys : ys = xs.drop (i + 1) := by
      have := congrArg List.tail hi
      simpa [List.tail_drop] using this
    have : (i : Int) < (xs.length : Int) := by omega
    simp only [this, decide_true, cond_true, idx_nat, hx, Option.bind_some]
    show body y i s _ = body y i s (wlist fin body ys (i + 1))
    congr 1
    funext s'
    rw [bAdd_succ (by omega)]
    simp only [List.length_cons] at hk
    exact ih k (i + 1) s' hys (by omega)
theorem wlist_0 {α σ ρ : Type} {fin : σ → Option ρ} {body : α → Nat → σ → (σ → Option ρ) → Option ρ} {xs : List α} (L : Nat → σ → Int → Option ρ) (hn : xs.length ≤ 9223372036854775807)
    (hL : ∀ (k : Nat) (s : σ) (i : Nat), L (k + 1) s (i : Int) = bif decide ((i : Int) < (xs.length : Int)) then (idx xs (i : Int)).bind fun x => body x i s (fun s' => L k s' (bAdd .i64 (i : Int) 1)) else fin s)
    {k : Nat} (s : σ) (hk : xs.length < k) : L k s 0 = wlist fin body xs 0 s := by
  have := wlist_of L hn hL xs k 0 s (by simp) hk
  simpa using this
end Go.Tm.Pu
