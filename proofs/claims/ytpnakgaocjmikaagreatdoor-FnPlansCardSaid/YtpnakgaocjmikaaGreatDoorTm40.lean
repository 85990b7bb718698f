/- Short words for the printed texts. -/
import Derived.Test.YtpnakgaocjmikaaGreatDoorTm39
namespace Go.Tm
open Go
theorem kr {p : Prop} (h : p := by kernel_rfl) : p := h
section
variable {P : Program} {n : Nat} {ls : List Nat} {Q : Exit → St → Prop} {N : St → Prop} {st st' : St} {c x y : Code} {p : Nat → Bool} {ρ : Nat → Root} {ops : Array Oper} {l : List Oper} {K : St → Prop} {o : Oper}
theorem Wp.fg (s : Sx) (h : Wp P n ls c Q s.st) (hok : s.ok n ls [] [] = true := by kernel_rfl) (ht : s.tm.map (fun q => st.tm q.1) = s.tm.map (fun q => q.2.ren (phi []) (phi [])) := by kernel_rfl)
    (ho : s.ob.map (fun q => st.ob (phi [] q.1)) = s.ob.map (fun q => some (A.rens (phi []) (phi []) q.2)) := by kernel_rfl) (hr : s.rw.map (fun q => st.rw (phi [] q.1)) = s.rw.map (fun q => some q.2) := by kernel_rfl) : Wp P n ls c Q st :=
  Wp.le (Le.of (s := s) (mo := []) (mr := []) hok ht ho hr) h
theorem Wp.rg {id : Nat} (p : List Nat) (ρ : List (Nat × Root)) (h : Runs P (pOf p) (rhoOf ρ) ops ops.toList st (Q .normal)) (hok : ops.toList.all (dstOK n) = true := by kernel_rfl) : Wp P n ls (.region id ops false) Q st :=
  Wp.regionS (pOf p) (rhoOf ρ) hok h
theorem Wp.srg {id : Nat} (p : List Nat) (ρ : List (Nat × Root)) (h : Runs P (pOf p) (rhoOf ρ) ops ops.toList st (thenQ (Wp P n ls y Q) Q .normal)) (hok : ops.toList.all (dstOK n) = true := by kernel_rfl) : Wp P n ls (.seq (.region id ops false) y) Q st :=
  Wp.seq (Wp.regionS (pOf p) (rhoOf ρ) hok h)
theorem Runs.alln (hr : N (St.or (runP P ρ ops l st))) (h : (runP P ρ ops l st).isSome = true := by kernel_rfl) : Runs P p ρ ops l st (thenQ N Q .normal) :=
  Runs.all h (thenN hr)
end
end Go.Tm
