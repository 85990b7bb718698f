/- strings.Join, by the library's contract. -/
import Derived.Test.YtohcknmdebahiaaGreatDoorTm44
import Derived.Lib.Join
set_option linter.unusedVariables false
set_option linter.unusedSimpArgs false
namespace Go.Tm
open Go.RowKit

theorem join_call {P : Program} {f : FuncId} (hc : Callable P f)
    (h0 : ∀ (a : Option Addr) (c : Nat) (sep : ByteArray) (w : World), Calls P f #[.slice a 0 c, .string sep] w fun e w' => e = .returned (.string ⟨#[]⟩) ∧ w' = w)
    (h : ∀ (bk o c : Nat) (xs : List ByteArray) (sep : ByteArray) (w : World), (∀ (j : Nat) (x : ByteArray), xs[j]? = some x → w.cell? ⟨bk, o + j, none⟩ = some (.string x)) → bk < w.heap.size → xs.length ≤ 140737488355328 → xs.length ≤ c →
      (Lib.join (xs.map (·.data.toList)) sep.data.toList).length ≤ 140737488355328 →
      Calls P f #[.slice (some ⟨bk, o, none⟩) xs.length c, .string sep] w fun e w' => e = .returned (.string ⟨(Lib.join (xs.map (·.data.toList)) sep.data.toList).toArray⟩) ∧ Below w.heap.size w w')
    {xs : List ByteArray} {sep r : ByteArray} (hr : (bif decide (xs.length ≤ 140737488355328) && decide ((Lib.join (xs.map (·.data.toList)) sep.data.toList).length ≤ 140737488355328) then some (⟨(Lib.join (xs.map (·.data.toList)) sep.data.toList).toArray⟩ : ByteArray) else none) = some r) :
    CallOK P f [.one (.t (.sl 1 (xs.map eStr))), .one (.t (.str sep))] (.one (.t (.str r))) [] := by
  refine ⟨hc, fun w F vs bs hF hV hn hb htb => ?_⟩
  cases hd : (decide (xs.length ≤ 140737488355328) && decide ((Lib.join (xs.map (·.data.toList)) sep.data.toList).length ≤ 140737488355328)) with
  | false => rw [hd] at hr; cases hr
  | true =>
    rw [hd] at hr
    cases hr
    simp only [Bool.and_eq_true, decide_eq_true_eq] at hd
    obtain ⟨hd1, hd2⟩ := hd
    have fin : ∀ (vs : List Value) (w' : World), vs.length = 2 → Below w.heap.size w w' → ∃ v F' bv bo, Ending.returned (.string ⟨(Lib.join (xs.map (·.data.toList)) sep.data.toList).toArray⟩) = .returned v ∧ Calm w w' ∧ (∀ b, b < w.heap.size → b ∉ ([] : List Nat) → w'.heap[b]? = w.heap[b]?) ∧ (∀ b, F b → F' b) ∧
      (∀ b, F' b → b < w'.heap.size ∧ (b < w.heap.size → F b ∨ b ∈ ([] : List Nat)) ∧ (F b ∨ Wr w' b)) ∧ VV w' F' (.one (.t (.str ⟨(Lib.join (xs.map (·.data.toList)) sep.data.toList).toArray⟩))) v bv ∧ Outs w' F' [.one (.t (.sl 1 (xs.map eStr))), .one (.t (.str sep))] vs [] bo ∧ (bv ++ bo).Nodup ∧ ∀ b ∈ bv ++ bo, ¬ F' b ∧ (w.heap.size ≤ b ∨ b ∈ ([] : List Nat)) := by
      intro vs w' hl hbel
      match vs, hl with
      | [v1, v2], _ =>
        exact ⟨_, F, [], [], rfl, ⟨hbel.os, hbel.tape, hbel.output, hbel.size⟩, fun b hb _ => hbel.block b hb, fun _ h => h, fun b hb => ⟨Nat.lt_of_lt_of_le (hF b hb) hbel.size, fun _ => .inl hb, .inl hb⟩,
          .one _ _ _ (.t _ _ (.str _)), .skip _ _ _ _ _ _ (fun c h => by cases h) (.skip _ _ _ _ _ _ (fun c h => by cases h) .nil), List.nodup_nil, fun b hb => by simp at hb⟩
    cases hV with
    | cons _ v b _ vs bs h1 hs =>
      cases hs with
      | cons _ v2 b2 _ vs2 bs2 h2 hs2 =>
        cases hs2
        cases h2 with
        | one _ _ _ h2 => cases h2 with
          | t _ _ h2 =>
            cases h2
            cases h1 with
            | one _ _ _ h1 => cases h1 with
              | t _ _ h1 =>
                generalize hrows : xs.map eStr = rows at h1
                cases h1 with
                | sl0 sz a c ha =>
                  obtain rfl : xs = [] := by simpa using hrows
                  refine (h0 a c sep w).mono fun e w' ⟨he, hw⟩ => ?_
                  subst he hw
                  rw [← hrows]
                  exact fin _ _ rfl (Below.refl _ _)
                | sl sz rows b off c u hc' hFb hs hx hr =>
                  subst hrows
                  have hcells : ∀ (j : Nat) (x : ByteArray), xs[j]? = some x → w.cell? ⟨b, off + j, none⟩ = some (.string x) := fun j x hj => by
                    have hi : (xs.map eStr)[j]? = some [.str x] := by rw [List.getElem?_map, hj]; rfl
                    have h4 := hx j [.str x] 0 (.str x) hi rfl
                    have h5 := hr j [.str x] 0 (.str x) hi rfl
                    rw [show off + j * 1 + 0 = off + j by omega] at h4
                    rw [h4]
                    generalize u j 0 = q at h5
                    cases h5
                    rfl
                  rw [List.length_map] at hc' ⊢
                  refine (h b off c xs sep w hcells (hF b hFb) hd1 hc' hd2).mono fun e w' ⟨he, hw⟩ => ?_
                  subst he
                  exact fin _ _ rfl hw
end Go.Tm
