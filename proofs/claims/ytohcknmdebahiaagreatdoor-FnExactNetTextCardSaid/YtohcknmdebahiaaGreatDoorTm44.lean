/- strconv.Itoa, by the library's contract. -/
import Derived.Test.YtohcknmdebahiaaGreatDoorTm42
import Derived.Shelf.Strconv.Itoa3
import Derived.Lib.AppendIntMem
set_option linter.unusedVariables false
set_option linter.unusedSimpArgs false
namespace Go.Tm
open Go.RowKit

theorem itoa_call {P : Program} {f : FuncId} {k : Nat} (hc : Callable P f) (hk : P.globalNamed "internal/strconv.uint64pow10" = some k)
    (h : ∀ (n : Int), -9223372036854775808 ≤ n → n ≤ 9223372036854775807 → ∀ w : World, Lib.TabIs P w "internal/strconv.uint64pow10" .u64 Lib.pow10Tab →
      Calls P f #[.int .i64 n] w fun e w' => e = .returned (.string ⟨(Lib.itoa n).toArray⟩) ∧ ∃ k os, w' = Sort.grow (w.drewN k) os)
    {n : Int} {r : ByteArray} (hr : (bif decide (-9223372036854775808 ≤ n) && decide (n ≤ 9223372036854775807) then some (⟨(Lib.itoa n).toArray⟩ : ByteArray) else none) = some r) :
    CallOK P f [.one (.t (.int .i64 n))] (.one (.t (.str r))) [] := by
  refine ⟨hc, fun w F vs bs hF hV hn hb htb => ?_⟩
  cases hd : (decide (-9223372036854775808 ≤ n) && decide (n ≤ 9223372036854775807)) with
  | false => rw [hd] at hr; cases hr
  | true =>
    rw [hd] at hr
    cases hr
    simp only [Bool.and_eq_true, decide_eq_true_eq] at hd
    cases hV with
    | cons _ v b _ vs bs h1 hs =>
      cases hs
      cases h1 with
      | one _ _ _ h1 => cases h1 with
        | t _ _ h1 =>
          cases h1
          refine (h n hd.1 hd.2 w (htb k hk).1).mono fun e w' ⟨he, j, os, hw⟩ => ?_
          subst he hw
          have hsz : w.heap.size ≤ (Sort.grow (w.drewN j) os).heap.size := Lib.size_grow w j os
          have hold : ∀ b, b < w.heap.size → (Sort.grow (w.drewN j) os).heap[b]? = w.heap[b]? := fun b hb => Lib.heap_grow_old w j os b hb
          exact ⟨_, F, [], [], rfl, ⟨rfl, rfl, rfl, hsz⟩, fun b hb _ => hold b hb, fun _ h => h, fun b hb => ⟨Nat.lt_of_lt_of_le (hF b hb) hsz, fun _ => .inl hb, .inl hb⟩,
            .one _ _ _ (.t _ _ (.str _)), .skip _ _ _ _ _ _ (fun c h => by cases h) .nil, List.nodup_nil, fun b hb => by simp at hb⟩
end Go.Tm
