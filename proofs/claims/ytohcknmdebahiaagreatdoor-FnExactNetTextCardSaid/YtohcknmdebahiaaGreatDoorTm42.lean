/- A tree that is known not to be nil, seen as a tree. -/
import Derived.Test.YtohcknmdebahiaaGreatDoorTm41
set_option linter.unusedVariables false
namespace Go.Tm
open Go.RowKit
section
variable {P : Program} {n : Nat} {ls : List Nat} {st st1 : St}
theorem Le.unnn (t sz : Nat) (rows : List (List T)) (ht : st.tm t = .nn sz rows) (hlt : Nat.blt t n = true) : Le n ls st (st.put (some t) (.t (.sl sz rows))) :=
  Le.slot rfl (fun E g w v hM hv => by
    rw [ht] at hv
    cases hv with
    | nn _ _ _ hr _ => exact ⟨g, hM, Ext.refl _ _ _ _, .t _ _ hr⟩) (by simpa using hlt)
end
end Go.Tm
