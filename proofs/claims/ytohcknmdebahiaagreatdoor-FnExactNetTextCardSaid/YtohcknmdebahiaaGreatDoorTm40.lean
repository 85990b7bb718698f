/- Short words for the printed texts. -/
import Derived.Test.YtohcknmdebahiaaGreatDoorTm39
namespace Go.Tm
open Go
theorem oi {α : Type} {a b : α} (h : some a = some b) : a = b := Option.some.inj h
theorem kr {p : Prop} (h : p := by kernel_rfl) : p := h
section
variable {P : Program} {n : Nat} {ls : List Nat} {Q : Exit → St → Prop} {N : St → Prop} {st st' : St} {c x y : Code} {p : Nat → Bool} {ρ : Nat → Root} {ops : Array Oper} {l : List Oper} {K : St → Prop} {o : Oper}
theorem Wp.fg (s : Sx) (h : Wp P n ls c Q s.st) (hok : s.ok n ls [] [] = true := by kernel_rfl) (ht : s.tm.map (fun q => st.tm q.1) = s.tm.map (fun q => q.2.ren (phi []) (phi [])) := by kernel_rfl)
    (ho : s.ob.map (fun q => st.ob (phi [] q.1)) = s.ob.map (fun q => some (A.rens (phi []) (phi []) q.2)) := by kernel_rfl) (hr : s.rw.map (fun q => st.rw (phi [] q.1)) = s.rw.map (fun q => some q.2) := by kernel_rfl) : Wp P n ls c Q st :=
  Wp.le (Le.of (s := s) (mo := []) (mr := []) hok ht ho hr) h
theorem Wp.rg {id : Nat} (p : List Nat) (ρ : List (Nat × Root)) (h : Runs P (pOf p) (rhoOf ρ) ops ops.toList st (Q .normal)) (hok : ops.toList.all (dstOK n) = true := by kernel_rfl) : Wp P n ls (.region id ops false) Q st :=
  Wp.regionS (pOf p) (rhoOf ρ) hok h
theorem Wp.srg {id : Nat} (p : List Nat) (ρ : List (Nat × Root)) (h : Runs P (pOf p) (rhoOf ρ) ops ops.toList st (thenQ (Wp P n ls y Q) Q .normal)) (hok : ops.toList.all (dstOK n) = true := by kernel_rfl) : Wp P n ls (.seq (.region id ops false) y) Q st :=
  Wp.seq (Wp.regionS (pOf p) (rhoOf ρ) hok h)
theorem Runs.alln (hr : N (St.or (runP P ρ ops l st))) (h : (runP P ρ ops l st).isSome = true := by kernel_rfl) : Runs P p ρ ops l st (thenQ N Q .normal) :=
  Runs.all h (thenN hr)
theorem Wp.sag {id : Nat} (s : Sx) (h : Wp P n ls y Q s.st) (h1 : (runP P (rhoOf []) ops ops.toList st).isSome = true := by kernel_rfl) (hd : ops.toList.all (dstOK n) = true := by kernel_rfl) (hok : s.ok n ls [] [] = true := by kernel_rfl)
    (ht : s.tm.map (fun q => (St.or (runP P (rhoOf []) ops ops.toList st)).tm q.1) = s.tm.map (fun q => q.2.ren (phi []) (phi [])) := by kernel_rfl) (ho : s.ob.map (fun q => (St.or (runP P (rhoOf []) ops ops.toList st)).ob (phi [] q.1)) = s.ob.map (fun q => some (A.rens (phi []) (phi []) q.2)) := by kernel_rfl)
    (hr : s.rw.map (fun q => (St.or (runP P (rhoOf []) ops ops.toList st)).rw (phi [] q.1)) = s.rw.map (fun q => some q.2) := by kernel_rfl) : Wp P n ls (.seq (.region id ops false) y) Q st :=
  Wp.srg [] [] (Runs.alln (Wp.fg s h hok ht ho hr) h1) hd
theorem Wp.sa {id : Nat} (h : Wp P n ls y Q (St.or (runP P (rhoOf []) ops ops.toList st))) (h1 : (runP P (rhoOf []) ops ops.toList st).isSome = true := by kernel_rfl) (hd : ops.toList.all (dstOK n) = true := by kernel_rfl) : Wp P n ls (.seq (.region id ops false) y) Q st :=
  Wp.srg [] [] (Runs.alln h h1) hd
theorem Wp.c2 {α : Type} {o : Operand} {b : Bool} {e1 e2 r : α} (h : (bif b then e1 else e2) = r) (ht : e1 = r → Wp P n ls x Q st) (hf : e2 = r → Wp P n ls y Q st) (ho : st.eval o = some (.t (.bool b)) := by kernel_rfl) : Wp P n ls (.cond o x y) Q st :=
  Wp.cond2 ho (fun hc => ht (cond_t h hc)) (fun hc => hf (cond_f h hc))
theorem Runs.allf {n : Nat} {ls : List Nat} (s : Sx) (h : Wp P n ls y Q s.st) (h1 : (runP P ρ ops l st).isSome = true := by kernel_rfl) (hok : s.ok n ls [] [] = true := by kernel_rfl)
    (ht : s.tm.map (fun q => (St.or (runP P ρ ops l st)).tm q.1) = s.tm.map (fun q => q.2.ren (phi []) (phi [])) := by kernel_rfl) (ho : s.ob.map (fun q => (St.or (runP P ρ ops l st)).ob (phi [] q.1)) = s.ob.map (fun q => some (A.rens (phi []) (phi []) q.2)) := by kernel_rfl)
    (hr : s.rw.map (fun q => (St.or (runP P ρ ops l st)).rw (phi [] q.1)) = s.rw.map (fun q => some q.2) := by kernel_rfl) : Runs P p ρ ops l st (thenQ (Wp P n ls y Q) Q .normal) :=
  Runs.alln (Wp.fg s h hok ht ho hr) h1
theorem Runs.ck (d : Nat) (as : List A) {f : Nat} {vs : List V} {res : V} {outs : List (List C)} {xf : Operand} {args : Array Operand} {ts : Array TypeId} (hc : CallOK P f vs res outs)
    (hk : Runs P p ρ ops l ((orV ((recvOuts d (slots (as ++ [])) outs (V.toA d (tokR d 0) res MA.ret)).run (orV ((passA false p (as ++ []) MA.ret).run st)))).put o.dst (orA ((recvOuts d (slots (as ++ [])) outs (V.toA d (tokR d 0) res MA.ret)).run (orV ((passA false p (as ++ []) MA.ret).run st))))) K)
    (ho : o.op = .call { callee := .value xf, args, argTypes := ts } := by rfl) (hd : o.dst = some d := by rfl) (hg : wantG ops st o = some true := by kernel_rfl) (hf : opFits ρ st o = true := by kernel_rfl) (hxf : st.eval xf = some (.clo f []) := by kernel_rfl) (has : allSome (args.toList.map st.eval) = some as := by kernel_rfl)
    (hp : ((passA false p (as ++ []) MA.ret).run st).map Prod.fst = some vs := by kernel_rfl) (hr : ((recvOuts d (slots (as ++ [])) outs (V.toA d (tokR d 0) res MA.ret)).run (orV ((passA false p (as ++ []) MA.ret).run st))).isSome = true := by kernel_rfl) : Runs P p ρ ops (o :: l) st K :=
  Runs.callK false d f [] as vs res outs ho hd hg hf hxf has hp hc hr hk
theorem Wp.sb {id : Nat} (k : Nat) (h : Runs P (pOf []) (rhoOf []) ops (ops.toList.drop k) (St.or (runP P (rhoOf []) ops (ops.toList.take k) st)) (thenQ (Wp P n ls y Q) Q .normal)) (h1 : (runP P (rhoOf []) ops (ops.toList.take k) st).isSome = true := by kernel_rfl)
    (hd : ops.toList.all (dstOK n) = true := by kernel_rfl) : Wp P n ls (.seq (.region id ops false) y) Q st :=
  Wp.srg [] [] (Runs.batch k h1 h) hd
theorem Wp.sk (h : N st) {Q : Exit → St → Prop} : Wp P n ls .skip (thenQ N Q) st := Wp.skip (thenN h)
end
abbrev A.s (x : List Int) : A := .t (.sl 1 (x.map (eInt .u8)))
abbrev C.s (x : List Int) : C := .t (.sl 1 (x.map (eInt .u8)))
abbrev A.i (n : Int) : A := .t (.int .i64 n)
abbrev A.b (b : Bool) : A := .t (.bool b)
abbrev C.i (n : Int) : C := .t (.int .i64 n)
abbrev C.b (b : Bool) : C := .t (.bool b)
end Go.Tm
