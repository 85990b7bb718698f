/- More rules for printed walks. -/
import Derived.Test.YtohcknmdebahiaaGreatDoorTm30
set_option linter.unusedVariables false
set_option linter.unusedSimpArgs false
namespace Go.Tm
open Go.RowKit

/-- A byte of a string, where there is one. -/
def sIdx (s : ByteArray) (i : Int) : Option Int := if 0 ≤ i then (s[i.toNat]?).map fun b => (b.toNat : Int) else none
def maxI : Nat := 9223372036854775807
def cap47 : Nat := 140737488355328

section
variable {P : Program} {n : Nat} {ls : List Nat} {Q : Exit → St → Prop} {st st' : St} {p : Nat → Bool} {ρ : Nat → Root} {ops : Array Oper} {l : List Oper} {K : St → Prop} {o : Oper}

theorem RetK {m : Bool} {fn : Func} {args : List V} {res : V} {outs : List (List C)} (l : List A) (res0 : V) (outs0 : List (List C)) (hres : resOf P st fn.results.toList = some l) (h : ((outsA 0 args fun os => retV m (tupA l) fun v => MA.ret (v, os)).run st).map Prod.fst = some (res0, outs0)) (hv : VLe res0 res) (ho : All2 (All2 CLe) outs0 outs) : RetTo P m fn args res outs .ret st := by
  obtain ⟨⟨x, st1⟩, h1, h2⟩ := Option.map_eq_some_iff.1 h
  cases h2
  exact ⟨.inl rfl, l, st1, res0, outs0, hres, h1, hv, ho⟩
theorem RetKn {m : Bool} {fn : Func} {args : List V} {res : V} {outs : List (List C)} (l : List A) (res0 : V) (outs0 : List (List C)) (hres : resOf P st fn.results.toList = some l) (h : ((outsA 0 args fun os => retV m (tupA l) fun v => MA.ret (v, os)).run st).map Prod.fst = some (res0, outs0)) (hv : VLe res0 res) (ho : All2 (All2 CLe) outs0 outs) : RetTo P m fn args res outs .normal st := by
  obtain ⟨⟨x, st1⟩, h1, h2⟩ := Option.map_eq_some_iff.1 h
  cases h2
  exact ⟨.inr rfl, l, st1, res0, outs0, hres, h1, hv, ho⟩

theorem Runs.appT {α : Type} (f : α → List T) (d m e nn by_ r : Nat) (xs ys : List α) {t : TypeId} {ts : Array TypeId} {args : Array Operand} {a b : Operand} {y : A} (ho : o.op = .call { callee := .builtin .append, args, argTypes := ts }) (hargs : args.toList = [a, b]) (hts : ts.toList = [t, t]) (hd : o.dst = some d) (hg : wantG ops st o = some true) (hf : opFits ρ st o = true)
    (ha : st.eval a = some (.own r)) (hr : st.rw r = some (.live e nn (xs.map f))) (hb : st.eval b = some y) (hy : ((y.rows fun m rows => MA.ret (m, rows)).run st).map Prod.fst = some (m, ys.map f)) (hm : m = nn ∨ ys.map f = []) (hi : appInfo P t = some (e, nn, by_)) (hsz : (xs.length + ys.length) * by_ ≤ 140737488355328) (hne : Nat.beq (tokR d 0) r = false) (hfree : st.rw (tokR d 0) = none)
    (hk : Runs P p ρ ops l (({ st with rw := upd (upd st.rw r (some .gone)) (tokR d 0) (some (.live e nn ((xs ++ ys).map f))) } : St).put o.dst (.own (tokR d 0))) K) : Runs P p ρ ops (o :: l) st K :=
  Runs.appO d m e nn by_ r (xs.map f) (ys.map f) ho hargs hts hd hg hf ha hr hb hy hm hi (by simpa using hsz) hne hfree (by rw [← List.map_append]; exact hk)
theorem Runs.appNT {α : Type} (f : α → List T) (d m e nn by_ : Nat) (ys : List α) {t : TypeId} {ts : Array TypeId} {args : Array Operand} {a b : Operand} {y : A} (ho : o.op = .call { callee := .builtin .append, args, argTypes := ts }) (hargs : args.toList = [a, b]) (hts : ts.toList = [t, t]) (hd : o.dst = some d) (hg : wantG ops st o = some true) (hf : opFits ρ st o = true)
    (ha : st.eval a = some .nil) (hb : st.eval b = some y) (hy : ((y.rows fun m rows => MA.ret (m, rows)).run st).map Prod.fst = some (m, ys.map f)) (hm : m = nn ∨ ys.map f = []) (hi : appInfo P t = some (e, nn, by_)) (hsz : ys.length * by_ ≤ 140737488355328) (hfree : st.rw (tokR d 0) = none)
    (hk : Runs P p ρ ops l (({ st with rw := upd st.rw (tokR d 0) (some (.live e nn (ys.map f))) } : St).put o.dst (.own (tokR d 0))) K) : Runs P p ρ ops (o :: l) st K :=
  Runs.appN d m e nn by_ (ys.map f) ho hargs hts hd hg hf ha hb hy hm hi (by simpa using hsz) hfree hk

theorem Runs.sidx (s : ByteArray) (i : Int) {b : Int} {t : TypeId} {x y : Operand} {kk : IntKind} (ho : o.op = .index t x y) (hg : wantG ops st o = some true) (hf : opFits ρ st o = true) (hx : st.eval x = some (.t (.str s))) (hy : st.eval y = some (.t (.int kk i))) (hu : P.underlying t = some .string)
    (h : sIdx s i = some b) (hk : Runs P p ρ ops l (st.put o.dst (.t (.int .u8 b))) K) : Runs P p ρ ops (o :: l) st K := by
  refine Runs.pure (x := .t (.int .u8 b)) hg hf ?_ hk
  unfold sIdx at h
  split at h
  · rename_i h0
    obtain ⟨c, hc, rfl⟩ := Option.map_eq_some_iff.1 h
    simp only [maOf, ho, hx, hy, hu, h0, ↓reduceIte, hc, MA.run]
  · cases h
theorem Runs.cat (a b : ByteArray) {t u : TypeId} {x y : Operand} (ho : o.op = .binOp .add t x y u) (hg : wantG ops st o = some true) (hf : opFits ρ st o = true) (hx : st.eval x = some (.t (.str a))) (hy : st.eval y = some (.t (.str b)))
    (h : a.size + b.size ≤ 9223372036854775807) (hk : Runs P p ρ ops l (st.put o.dst (.t (.str (a ++ b)))) K) : Runs P p ρ ops (o :: l) st K := by
  refine Runs.pure (x := .t (.str (a ++ b))) hg hf ?_ hk
  simp only [maOf, ho, hx, hy, bin, h, ↓reduceIte, MA.run]
/-- Whole numbers, where the second one is none that the machine refuses. -/
theorem Runs.num (op : BinOp) (a b : T) (z : T) {t u : TypeId} {x y : Operand} (ho : o.op = .binOp op t x y u) (hg : wantG ops st o = some true) (hf : opFits ρ st o = true) (hx : st.eval x = some (.t a)) (hy : st.eval y = some (.t b))
    (h : bin (isB P t) op a b = some z) (hk : Runs P p ρ ops l (st.put o.dst (.t z)) K) : Runs P p ρ ops (o :: l) st K := by
  refine Runs.pure (x := .t z) hg hf ?_ hk
  simp only [maOf, ho, hx, hy, h, MA.run]
theorem bin_quo (tb : Bool) (k : IntKind) (a b : Int) (h : (b == 0) = false) : bin tb .quo (.int k a) (.int k b) = some (.int k (k.wrap (a.tdiv b))) := by
  have : b ≠ 0 := by simpa using h
  simp [bin, this]
theorem bin_rem (tb : Bool) (k : IntKind) (a b : Int) (h : (b == 0) = false) : bin tb .rem (.int k a) (.int k b) = some (.int k (a.tmod b)) := by
  have : b ≠ 0 := by simpa using h
  simp [bin, this]
theorem bin_shl (tb : Bool) (k k' : IntKind) (a b : Int) (h : decide (0 ≤ b) = true) : bin tb .shl (.int k a) (.int k' b) = some (.int k (k.wrap (a * 2 ^ min b.toNat k.bits))) := by
  have : 0 ≤ b := by simpa using h
  simp [bin, this]
theorem bin_shr (tb : Bool) (k k' : IntKind) (a b : Int) (h : decide (0 ≤ b) = true) : bin tb .shr (.int k a) (.int k' b) = some (.int k (a.fdiv (2 ^ min b.toNat k.bits))) := by
  have : 0 ≤ b := by simpa using h
  simp [bin, this]

/-! ### slices of slices and of strings -/
def sliceOK (l h n : Int) : Bool := decide (0 ≤ l) && decide (l ≤ h) && decide (h ≤ n)
theorem sliceOK_spec {l h n : Int} (hh : sliceOK l h n = true) : 0 ≤ l ∧ l ≤ h ∧ h ≤ n := by
  simp only [sliceOK, Bool.and_eq_true, decide_eq_true_eq] at hh
  exact ⟨hh.1.1, hh.1.2, hh.2⟩
theorem Runs.substr (s : ByteArray) (i j : Int) {t : TypeId} {x : Operand} {lo hi : Option Operand} {alo ahi : Option A} (ho : o.op = .slice t x lo hi none) (hg : wantG ops st o = some true) (hf : opFits ρ st o = true) (hx : st.eval x = some (.t (.str s))) (hlo : evO st.eval lo = some alo) (hhi : evO st.eval hi = some ahi)
    (hl : optN 0 alo = some i) (hh : optN s.size ahi = some j) (hu : P.underlying t = some .string) (hw : cutW ρ o.dst alo ahi = false) (h : sliceOK i j s.size = true) (hk : Runs P p ρ ops l (st.put o.dst (.t (.str (s.extract i.toNat j.toNat)))) K) : Runs P p ρ ops (o :: l) st K := by
  have h' := sliceOK_spec h
  refine Runs.pure (x := .t (.str (s.extract i.toNat j.toNat))) hg hf ?_ hk
  simp only [maOf, ho, hx, hlo, hhi, hw, Bool.false_eq_true, maSlice, hu, hl, hh, h'.1, h'.2.1, h'.2.2, and_self, ↓reduceIte, MA.run]
theorem Runs.subsl {α : Type} (f : α → List T) (xs : List α) (sz : Nat) (i j : Int) {t e : TypeId} {x : Operand} {ax : A} {lo hi : Option Operand} {alo ahi : Option A} (ho : o.op = .slice t x lo hi none) (hg : wantG ops st o = some true) (hf : opFits ρ st o = true) (hx : st.eval x = some ax) (hr : ((ax.toT MA.ret).run st).map Prod.fst = some (.sl sz (xs.map f)))
    (hlo : evO st.eval lo = some alo) (hhi : evO st.eval hi = some ahi) (hl : optN 0 alo = some i) (hh : optN xs.length ahi = some j) (hu : P.underlying t = some (.slice e)) (hs : tsize P e = some sz) (hw : cutW ρ o.dst alo ahi = false) (h : sliceOK i j xs.length = true)
    (hk : Runs P p ρ ops l ((orV ((ax.toT MA.ret).run st)).put o.dst (.t (.sl sz (((xs.take j.toNat).drop i.toNat).map f)))) K) : Runs P p ρ ops (o :: l) st K := by
  have h' := sliceOK_spec h
  obtain ⟨⟨y, st1⟩, h1, h2⟩ := Option.map_eq_some_iff.1 hr
  cases h2
  rw [h1] at hk
  refine Runs.op (x := .t (.sl sz (((xs.take j.toNat).drop i.toNat).map f))) (st1 := st1) hg hf ?_ hk
  have key : ∀ k : T → MA A, (ax.toT k).run st = (k (.sl sz (xs.map f))).run st1 := by
    intro k
    cases ax <;> simp only [A.toT, MA.run, Option.some.injEq, Prod.mk.injEq, reduceCtorEq] at h1 ⊢
    · obtain ⟨h1, rfl⟩ := h1; rw [h1]
    · obtain ⟨h1, rfl⟩ := h1; rw [h1]
    · rename_i r
      revert h1
      rcases st.rw r with _ | (_ | _ | _) <;> simp only [MA.run, Option.some.injEq, Prod.mk.injEq, reduceCtorEq, false_implies]
      · rintro ⟨h1, rfl⟩; rw [h1]
      · rintro ⟨h1, rfl⟩; rw [h1]
  simp only [maOf, ho, hx, hlo, hhi, hw, Bool.false_eq_true, maSlice, hu, hs, key, hl, List.length_map, hh, h'.1, h'.2.1, h'.2.2, and_self, ↓reduceIte, MA.run, true_or, ← List.map_take, ← List.map_drop]
/-- make -/
theorem toTs_map {α : Type} : ∀ (ts : List T) (k : List T → MA α), A.toTs (ts.map A.t) k = k ts
  | [], k => rfl
  | t :: ts, k => by
    simp only [List.map_cons, A.toTs, A.toT]
    exact toTs_map ts _
theorem Runs.mkS {α : Type} (f : α → List T) (y : α) (d e nn by_ : Nat) (i c : Int) {t : TypeId} {x1 x2 : Operand} (ho : o.op = .makeSlice t x1 x2) (hd : o.dst = some d) (hg : wantG ops st o = some true) (hf : opFits ρ st o = true) (h1 : st.eval x1 = some (.t (.int .i64 i))) (h2 : st.eval x2 = some (.t (.int .i64 c)))
    (hi : appInfo P t = some (e, nn, by_)) (hz : (tzero P e).map (relab (labs P e)) = some ((f y).map A.t))
    (h0 : (decide (0 ≤ c) && (i == 0 || i == c)) = true) (hsz : c.toNat * by_ ≤ 140737488355328) (hfree : st.rw (tokR d 0) = none)
    (hk : Runs P p ρ ops l (({ st with rw := upd st.rw (tokR d 0) (some (.live e nn ((List.replicate i.toNat y).map f))) } : St).put o.dst (.own (tokR d 0))) K) : Runs P p ρ ops (o :: l) st K := by
  obtain ⟨z, z0, hu, hti, hzz, q1, q2, q3⟩ := appInfo_spec hi
  simp only [Bool.and_eq_true, decide_eq_true_eq, Bool.or_eq_true, beq_iff_eq] at h0
  refine Runs.op (x := .own (tokR d 0)) hg hf ?_ hk
  have hc : c ≤ 9223372036854775807 := by
    have : c.toNat ≤ c.toNat * by_ := Nat.le_mul_of_pos_right _ q3
    omega
  rw [hzz] at hz
  have hz' : relab (labs P e) z = (f y).map A.t := by simpa using hz
  simp only [maOf, ho, h1, h2, maMake, hu, hd, hti, hzz, q1, q2, h0.1, h0.2, hsz, hc, and_self, ↓reduceIte, hz', toTs_map, List.map_replicate, mkRow, MA.run, hfree]
/-- A store into an element of a row of one's own. -/
theorem Runs.storeT {α : Type} (f : α → List T) (xs : List α) (r i off : Nat) {y : α} (y' : α) {t e : TypeId} {x1 x2 : Operand} (v : A) {sz m : Nat} (ts : List T) (ho : o.op = .store t x1 x2) (hg : wantG ops st o = some true) (hf : opFits ρ st o = true)
    (h1 : st.eval x1 = some (.elem r sz i off)) (h2 : st.eval x2 = some v) (hm : tsize P t = some m) (hv : (Nat.beq v.cells.length m && v.cells.all A.one) = true) (hz : relab (labs P t) v.cells = ts.map A.t)
    (hr : st.rw r = some (.live e sz (xs.map f))) (h : xs[i]? = some y) (hle : Nat.ble (off + m) (f y).length = true) (hy : spl (f y) off ts = f y')
    (hk : Runs P p ρ ops l ((({ st with rw := upd st.rw r (some (.live e sz ((xs.set i y').map f))) } : St)).put o.dst .undef) K) : Runs P p ρ ops (o :: l) st K := by
  simp only [Bool.and_eq_true] at hv
  have hv1 := Nat.eq_of_beq_eq_true hv.1
  have hle' : off + m ≤ (f y).length := by simpa using hle
  refine Runs.op (x := .undef) hg hf ?_ hk
  simp only [maOf, ho, h1, h2, maStore, hm, hv1, hv.2, and_self, ↓reduceIte, hz, toTs_map, MA.run, hr, List.getElem?_map, h, Option.map_some, hle', hy, List.map_set]
end
end Go.Tm
