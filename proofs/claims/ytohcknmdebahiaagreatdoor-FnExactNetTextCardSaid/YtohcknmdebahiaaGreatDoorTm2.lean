/- What trees and abstract values say of values in a World; what an abstract state says of a World. -/
import Derived.Test.YtohcknmdebahiaaGreatDoorTm1
import Derived.Lib.ItoaMem
set_option linter.unusedVariables false
namespace Go.Tm
open Go.RowKit

inductive Rd (w : World) (F : Nat → Prop) : T → Value → Prop
  | int (k : IntKind) (n : Int) : Rd w F (.int k n) (.int k n)
  | bool (b : Bool) : Rd w F (.bool b) (.bool b)
  | str (s : ByteArray) : Rd w F (.str s) (.string s)
  | nilf : Rd w F .nilf .nilFunc
  | sl0 (sz : Nat) (a : Option Addr) (c : Nat) (ha : a = none → c = 0) : Rd w F (.sl sz []) (.slice a 0 c)
  | sl (sz : Nat) (rows : List (List T)) (b off c : Nat) (u : Nat → Nat → Value) (hc : rows.length ≤ c) (hF : F b)
      (hs : ∀ (i : Nat) (row : List T), rows[i]? = some row → row.length = sz)
      (hx : ∀ (i : Nat) (row : List T) (j : Nat) (x : T), rows[i]? = some row → row[j]? = some x → w.cell? ⟨b, off + i * sz + j, none⟩ = some (u i j))
      (hr : ∀ (i : Nat) (row : List T) (j : Nat) (x : T), rows[i]? = some row → row[j]? = some x → Rd w F x (u i j)) :
      Rd w F (.sl sz rows) (.slice (some ⟨b, off, none⟩) rows.length c)

/-- Old blocks that F names are as they were. -/
def Same (F : Nat → Prop) (w w' : World) : Prop := ∀ b, F b → w'.heap[b]? = w.heap[b]?

theorem cell_same {F : Nat → Prop} {w w' : World} (h : Same F w w') {b o : Nat} (hb : F b) : w'.cell? ⟨b, o, none⟩ = w.cell? ⟨b, o, none⟩ :=
  World.cell?_of_block (w := w) (h b hb)

theorem Rd.mono {w w' : World} {F F' : Nat → Prop} {x : T} {v : Value} (h : Rd w F x v) (hs : Same F w w') (hF : ∀ b, F b → F' b) : Rd w' F' x v := by
  induction h with
  | int k n => exact .int k n
  | bool b => exact .bool b
  | str s => exact .str s
  | nilf => exact .nilf
  | sl0 sz a c ha => exact .sl0 sz a c ha
  | sl sz rows b off c u hc hb hsz hx hr ih =>
    exact .sl sz rows b off c u hc (hF b hb) hsz (fun i row j x h1 h2 => by rw [cell_same hs hb]; exact hx i row j x h1 h2) ih

theorem Rd.one {w : World} {F : Nat → Prop} {x : T} {v : Value} (h : Rd w F x v) : v.oneCell' = true ∧ v.cells = #[v] := by
  cases h <;> exact ⟨rfl, rfl⟩

/-- A foreign tree (s: of its scalars only the kinds are told). -/
inductive Sd (s : Bool) (w : World) (D : Nat → Prop) : T → Value → Prop
  | int (k : IntKind) (n n' : Int) (h : s = false → n' = n) : Sd s w D (.int k n) (.int k n')
  | bool (b b' : Bool) (h : s = false → b' = b) : Sd s w D (.bool b) (.bool b')
  | str (x : ByteArray) : Sd s w D (.str x) (.string x)
  | nilf : Sd s w D .nilf .nilFunc
  | sl0 (sz : Nat) (a : Option Addr) (c : Nat) (ha : a = none → c = 0) : Sd s w D (.sl sz []) (.slice a 0 c)
  | sl (sz : Nat) (rows : List (List T)) (b off c : Nat) (u : Nat → Nat → Value) (hc : rows.length ≤ c) (hF : D b)
      (hs : ∀ (i : Nat) (row : List T), rows[i]? = some row → row.length = sz)
      (hx : ∀ (i : Nat) (row : List T) (j : Nat) (x : T), rows[i]? = some row → row[j]? = some x → w.cell? ⟨b, off + i * sz + j, none⟩ = some (u i j))
      (hr : ∀ (i : Nat) (row : List T) (j : Nat) (x : T), rows[i]? = some row → row[j]? = some x → Sd s w D x (u i j)) :
      Sd s w D (.sl sz rows) (.slice (some ⟨b, off, none⟩) rows.length c)
theorem Sd.one {s : Bool} {w : World} {D : Nat → Prop} {x : T} {v : Value} (h : Sd s w D x v) : v.oneCell' = true ∧ v.cells = #[v] := by
  cases h <;> exact ⟨rfl, rfl⟩
theorem Rd.sd {s : Bool} {w : World} {D : Nat → Prop} {x : T} {v : Value} (h : Rd w D x v) : Sd s w D x v := by
  induction h with
  | int k n => exact .int k n n (fun _ => rfl)
  | bool b => exact .bool b b (fun _ => rfl)
  | str s => exact .str s
  | nilf => exact .nilf
  | sl0 sz a c ha => exact .sl0 sz a c ha
  | sl sz rows b off c u hc hb hsz hx hr ih => exact .sl sz rows b off c u hc hb hsz hx ih
theorem Sd.rd {w w' : World} {D D' : Nat → Prop} {x : T} {v : Value} (h : Sd false w D x v) (hs : Same D w w') (hD : ∀ b, D b → D' b) : Rd w' D' x v := by
  induction h with
  | int k n n' h => rw [h rfl]; exact .int k n
  | bool b b' h => rw [h rfl]; exact .bool b
  | str s => exact .str s
  | nilf => exact .nilf
  | sl0 sz a c ha => exact .sl0 sz a c ha
  | sl sz rows b off c u hc hb hsz hx hr ih =>
    exact .sl sz rows b off c u hc (hD b hb) hsz (fun i row j x h1 h2 => by rw [cell_same hs hb]; exact hx i row j x h1 h2) ih

/-- Two values of the same kind: scalars may differ. -/
inductive Kq : Value → Value → Prop
  | refl (v : Value) : Kq v v
  | int (k : IntKind) (n n' : Int) : Kq (.int k n) (.int k n')
  | bool (b b' : Bool) : Kq (.bool b) (.bool b')
theorem Kq.trans {a b c : Value} (h : Kq a b) (k : Kq b c) : Kq a c := by
  cases h with
  | refl => exact k
  | int k1 n n' => cases k with
    | refl => exact .int _ _ _
    | int => exact .int _ _ _
  | bool b b' => cases k with
    | refl => exact .bool _ _
    | bool => exact .bool _ _
/-- A block that may be written. -/
def Wr (w : World) (b : Nat) : Prop := ∃ arr e, w.heap[b]? = some (.cells arr e (0, 0))
/-- The block's cells are of the same kinds. -/
def KS (w w' : World) (b : Nat) : Prop := ∃ arr arr' e, w.heap[b]? = some (.cells arr e (0, 0)) ∧ w'.heap[b]? = some (.cells arr' e (0, 0)) ∧ arr'.size = arr.size ∧ ∀ (i : Nat) (v : Value), arr[i]? = some v → ∃ v', arr'[i]? = some v' ∧ Kq v v'
theorem KS.refl {w : World} {b : Nat} (h : Wr w b) : KS w w b := by
  obtain ⟨arr, e, h⟩ := h
  exact ⟨arr, arr, e, h, h, rfl, fun i v h => ⟨v, h, .refl v⟩⟩
theorem KS.trans {a b c : World} {k : Nat} (h : KS a b k) (h' : KS b c k) : KS a c k := by
  obtain ⟨x, y, e, h1, h2, h3, h4⟩ := h
  obtain ⟨y', z, e', k1, k2, k3, k4⟩ := h'
  rw [h2] at k1
  cases k1
  refine ⟨x, z, e, h1, k2, k3.trans h3, fun i v hv => ?_⟩
  obtain ⟨v', p1, p2⟩ := h4 i v hv
  obtain ⟨v'', q1, q2⟩ := k4 i v' p1
  exact ⟨v'', q1, p2.trans q2⟩
theorem KS.wr {w w' : World} {b : Nat} (h : KS w w' b) : Wr w' b := by
  obtain ⟨x, y, e, h1, h2, _⟩ := h
  exact ⟨y, e, h2⟩
theorem KS.same {w w' w'' : World} {b : Nat} (h : KS w w' b) (hs : w''.heap[b]? = w'.heap[b]?) : KS w w'' b := by
  obtain ⟨x, y, e, h1, h2, h3⟩ := h
  exact ⟨x, y, e, h1, hs.trans h2, h3⟩
theorem KS.cell {w w' : World} {b o : Nat} {v : Value} (h : KS w w' b) (hv : w.cell? ⟨b, o, none⟩ = some v) : ∃ v', w'.cell? ⟨b, o, none⟩ = some v' ∧ Kq v v' := by
  obtain ⟨x, y, e, h1, h2, h3, h4⟩ := h
  simp only [World.cell?, h1, h2, Option.isSome_none, Bool.false_eq_true, if_false] at hv ⊢
  exact h4 o v hv
theorem Sd.kq {w : World} {D : Nat → Prop} {x : T} {v v' : Value} (h : Sd true w D x v) (hk : Kq v v') : Sd true w D x v' := by
  cases hk with
  | refl => exact h
  | int k n n' => cases h with | int k n0 _ _ => exact .int k n0 n' (fun h => by cases h)
  | bool b b' => cases h with | bool b0 _ _ => exact .bool b0 b' (fun h => by cases h)
theorem Sd.ks {w w' : World} {D : Nat → Prop} {x : T} {v : Value} (h : Sd true w D x v) (hk : ∀ b, D b → KS w w' b) : Sd true w' D x v := by
  induction h with
  | int k n n' h => exact .int k n n' h
  | bool b b' h => exact .bool b b' h
  | str s => exact .str s
  | nilf => exact .nilf
  | sl0 sz a c ha => exact .sl0 sz a c ha
  | sl sz rows b off c u hc hb hsz hx hr ih =>
    refine .sl sz rows b off c (fun i j => (w'.cell? ⟨b, off + i * sz + j, none⟩).getD undef) hc hb hsz (fun i row j x h1 h2 => ?_) (fun i row j x h1 h2 => ?_)
    · obtain ⟨v', h3, _⟩ := (hk b hb).cell (hx i row j x h1 h2)
      rw [h3]; rfl
    · obtain ⟨v', h3, h4⟩ := (hk b hb).cell (hx i row j x h1 h2)
      rw [h3]
      exact (ih i row j x h1 h2).kq h4

/-- The rest of an abstract state's World: what is only read; where the variables lie; the rows' headers. -/
structure Gh where
  F : Nat → Prop
  ob : Nat → Nat
  rw : Nat → Value
  D : Nat → Prop := fun _ => False
  dw : World := default
  sh : Bool := false
  S : Nat → Prop := fun _ => False
  sw : World := default

inductive VR (w : World) (g : Gh) (O R : Nat → Prop) : A → Value → Prop
  | t (x : T) (v : Value) (h : Rd w g.F x v) : VR w g O R (.t x) v
  | nil : VR w g O R .nil (.slice none 0 0)
  | own (r : Nat) (hr : R r) : VR w g O R (.own r) (g.rw r)
  | agg (l : List A) (vs : List Value) (hl : l.length = vs.length) (h : ∀ (i : Nat) (x : A) (v : Value), l[i]? = some x → vs[i]? = some v → VR w g O R x v) : VR w g O R (.agg l) (.agg vs.toArray)
  | tup (l : List A) (vs : List Value) (hl : l.length = vs.length) (h : ∀ (i : Nat) (x : A) (v : Value), l[i]? = some x → vs[i]? = some v → VR w g O R x v) : VR w g O R (.tup l) (.tuple vs.toArray)
  | obj (s off : Nat) (hs : O s) : VR w g O R (.obj s off) (.pointer (some ⟨g.ob s, off, none⟩))
  | elem (r sz i off b n c : Nat) (hr : R r) (he : g.rw r = .slice (some ⟨b, 0, none⟩) n c) : VR w g O R (.elem r sz i off) (.pointer (some ⟨b, i * sz + off, none⟩))
  | sub (r sz lo n c c' : Nat) (ad a' : Option Addr) (hr : R r) (he : g.rw r = .slice ad n c) (hp : lo < n → ∃ b, ad = some ⟨b, 0, none⟩ ∧ a' = some ⟨b, lo * sz, none⟩) : VR w g O R (.sub r sz lo) (.slice a' (n - lo) c')
  | fadr (cells : List T) (b off : Nat) (u : Nat → Value) (hF : g.F b) (hx : ∀ (j : Nat) (x : T), cells[j]? = some x → w.cell? ⟨b, off + j, none⟩ = some (u j))
      (hr : ∀ (j : Nat) (x : T), cells[j]? = some x → Rd w g.F x (u j)) : VR w g O R (.fadr cells) (.pointer (some ⟨b, off, none⟩))
  | nn (sz : Nat) (rows : List (List T)) (v : Value) (h : Rd w g.F (.sl sz rows) v) (hv : ∃ a n c, v = .slice (some a) n c) : VR w g O R (.nn sz rows) v
  | clo (f : FuncId) (caps : List A) (vs : List Value) (hl : caps.length = vs.length) (h : ∀ (i : Nat) (x : A) (v : Value), caps[i]? = some x → vs[i]? = some v → VR w g O R x v) :
      VR w g O R (.clo f caps) (.func (.func f) #[] vs.toArray)
  | undef (v : Value) : VR w g O R .undef v
  | shp (x : T) (v : Value) (h : Sd true g.sw g.S x v) : VR w g O R (.shp x) v
  | ext (s : Bool) (x : T) (v : Value) (hs : g.sh = s) (h : Sd s g.dw g.D x v) : VR w g O R (.ext s x) v
  | exa (s : Bool) (cells : List T) (b off : Nat) (u : Nat → Value) (hs : g.sh = s) (hD : g.D b) (hx : ∀ (j : Nat) (x : T), cells[j]? = some x → g.dw.cell? ⟨b, off + j, none⟩ = some (u j))
      (hr : ∀ (j : Nat) (x : T), cells[j]? = some x → Sd s g.dw g.D x (u j)) : VR w g O R (.exa s cells) (.pointer (some ⟨b, off, none⟩))

/-- What was known stays known. -/
structure Ext (w w' : World) (g g' : Gh) (O R O' R' : Nat → Prop) : Prop where
  same : Same g.F w w'
  F : ∀ b, g.F b → g'.F b
  O : ∀ s, O s → O' s ∧ g'.ob s = g.ob s
  R : ∀ r, R r → R' r ∧ g'.rw r = g.rw r
  d : g'.D = g.D ∧ g'.dw = g.dw ∧ g'.sh = g.sh
  s : g'.S = g.S ∧ g'.sw = g.sw

theorem Ext.refl (w : World) (g : Gh) (O R : Nat → Prop) : Ext w w g g O R O R := ⟨fun _ _ => rfl, fun _ h => h, fun _ h => ⟨h, rfl⟩, fun _ h => ⟨h, rfl⟩, ⟨rfl, rfl, rfl⟩, rfl, rfl⟩

theorem VR.mono {w w' : World} {g g' : Gh} {O R O' R' : Nat → Prop} {a : A} {v : Value} (h : VR w g O R a v) (e : Ext w w' g g' O R O' R') : VR w' g' O' R' a v := by
  induction h with
  | t x v h => exact .t x v (h.mono e.same e.F)
  | nil => exact .nil
  | own r hr => rw [← (e.R r hr).2]; exact .own r (e.R r hr).1
  | agg l vs hl h ih => exact .agg l vs hl ih
  | tup l vs hl h ih => exact .tup l vs hl ih
  | obj s off hs => rw [← (e.O s hs).2]; exact .obj s off (e.O s hs).1
  | elem r sz i off b n c hr he => exact .elem r sz i off b n c (e.R r hr).1 (by rw [(e.R r hr).2]; exact he)
  | sub r sz lo n c c' ad a' hr he hp => exact .sub r sz lo n c c' ad a' (e.R r hr).1 (by rw [(e.R r hr).2]; exact he) hp
  | fadr cells b off u hF hx hr => exact .fadr cells b off u (e.F b hF) (fun j x h => by rw [cell_same e.same hF]; exact hx j x h) (fun j x h => (hr j x h).mono e.same e.F)
  | nn sz rows v h hv => exact .nn sz rows v (h.mono e.same e.F) hv
  | clo f caps vs hl h ih => exact .clo f caps vs hl ih
  | undef v => exact .undef v
  | shp x v h => obtain ⟨h1, h2⟩ := e.s; exact .shp x v (by rw [h1, h2]; exact h)
  | ext s x v hs h => obtain ⟨h1, h2, h3⟩ := e.d; exact .ext s x v (h3.trans hs) (by rw [h1, h2]; exact h)
  | exa s cells b off u hs hD hx hr => obtain ⟨h1, h2, h3⟩ := e.d; exact .exa s cells b off u (h3.trans hs) (by rw [h1]; exact hD) (by rw [h2]; exact hx) (by rw [h1, h2]; exact hr)

theorem VR.one {w : World} {g : Gh} {O R : Nat → Prop} {a : A} {v : Value} (h : VR w g O R a v) (ha : a.one = true)
    (hrw : ∀ r, R r → ∃ A n c, g.rw r = .slice A n c) : v.oneCell' = true ∧ v.cells = #[v] := by
  cases h with
  | t x v h => exact h.one
  | own r hr => obtain ⟨A, n, c, e⟩ := hrw r hr; rw [e]; exact ⟨rfl, rfl⟩
  | agg | tup | undef => cases ha
  | nn sz rows v h hv => exact h.one
  | ext s x v hs h => exact h.one
  | shp x v h => exact h.one
  | _ => exact ⟨rfl, rfl⟩

/-- What the table says of a row. -/
def RowAt (w0 w : World) (X : Nat → Prop) (F : Nat → Prop) (h : Value) : Row → Prop
  | .live e sz rows => ∃ inner : List Value, w.ownsRow 0 e sz h rows.length inner ∧ (∀ (i : Nat) (row : List T), rows[i]? = some row → row.length = sz) ∧
      (∀ (i : Nat) (row : List T) (j : Nat) (x : T), rows[i]? = some row → row[j]? = some x → ∃ u, inner[i * sz + j]? = some u ∧ Rd w F x u) ∧
      (∀ b, h.ownBlock = some b → ¬ F b ∧ (w0.heap.size ≤ b ∨ X b))
  | .frz sz rows => Rd w F (.sl sz rows) h
  | .gone => ∃ A n c, h = .slice A n c

def St.O (st : St) (s : Nat) : Prop := (st.ob s).isSome = true
def St.R (st : St) (r : Nat) : Prop := (st.rw r).isSome = true
/-- Is this row still one's own? -/
def St.L (st : St) (r : Nat) : Prop := ∃ e sz rows, st.rw r = some (.live e sz rows)

/-- The entry of a call: the world, the blocks that may be written, those that are only read. -/
structure En where
  w0 : World
  X : Nat → Prop
  F0 : Nat → Prop
  lent : List (Nat × Nat)
  D : Nat → Prop := fun _ => False
  sh : Bool := false
  pin : Option Value := none
/-- The first parameter's row. -/
def PR : Nat := 58982400

/-- An old block, now. -/
def Fr (g : Gh) (w0 w : World) (b : Nat) : Prop := w.heap[b]? = w0.heap[b]? ∨ (g.sh = true ∧ g.D b ∧ KS w0 w b)
theorem Fr.keep {g : Gh} {w0 w w' : World} {b : Nat} (h : Fr g w0 w b) (hs : w'.heap[b]? = w.heap[b]?) : Fr g w0 w' b := by
  rcases h with h | ⟨h1, h2, h3⟩
  · exact .inl (hs.trans h)
  · exact .inr ⟨h1, h2, h3.same hs⟩

theorem Fr.gh {g g' : Gh} {w0 w : World} {b : Nat} (h : Fr g w0 w b) (hd : g'.D = g.D ∧ g'.dw = g.dw ∧ g'.sh = g.sh) : Fr g' w0 w b := by
  unfold Fr at *
  rw [hd.1, hd.2.2]
  exact h

/-- strconv's table stands, at a block that is not written. -/
def TbW (P : Program) (w : World) (X : Nat → Prop) : Prop := ∀ k, P.globalNamed "internal/strconv.uint64pow10" = some k → Lib.TabIs P w "internal/strconv.uint64pow10" .u64 Lib.pow10Tab ∧ ¬ X k
class Tb (P : Program) (E : En) : Prop where
  tb : TbW P E.w0 fun b => E.X b ∨ (E.sh = true ∧ E.D b)
theorem TbW.mono {P : Program} {w : World} {X X' : Nat → Prop} (h : TbW P w X) (hX : ∀ b, X' b → X b) : TbW P w X' := fun k hk => ⟨(h k hk).1, fun hx => (h k hk).2 (hX k hx)⟩
theorem TbW.none {P : Program} {w : World} {X : Nat → Prop} (h : (P.globalNamed "internal/strconv.uint64pow10").isNone = true) : TbW P w X := fun k hk => by rw [hk] at h; cases h
theorem TbW.step {P : Program} {w w' : World} {X X' : Nat → Prop} (h : TbW P w X) (hw : ∀ b, b < w.heap.size → ¬ X b → w'.heap[b]? = w.heap[b]?) (hX : ∀ b, b < w.heap.size → ¬ X b → ¬ X' b) : TbW P w' X' := fun k hk => by
  obtain ⟨h1, h2⟩ := h k hk
  unfold Lib.TabIs World.var? at h1 ⊢
  rw [hk] at h1 ⊢
  simp only [Option.bind_some] at h1 ⊢
  have hlt : k < w.heap.size := by
    rcases Nat.lt_or_ge k w.heap.size with h3 | h3
    · exact h3
    · rw [Array.getElem?_eq_none h3] at h1; simp at h1
  rw [hw k hlt h2]
  exact ⟨h1, hX k hlt h2⟩

structure Mem (E : En) (g : Gh) (st : St) (w : World) : Prop where
  ob : ∀ s cells, st.ob s = some cells → ∃ arr e, w.heap[g.ob s]? = some (.cells arr e (0, 0)) ∧ cells.length ≤ arr.size ∧
    (∀ (j : Nat) (x : A), cells[j]? = some x → x.one = true ∧ ∃ v, arr[j]? = some v ∧ VR w g st.O st.R x v) ∧ ¬ g.F (g.ob s) ∧ (E.w0.heap.size ≤ g.ob s ∨ E.X (g.ob s))
  obne : ∀ s s', st.O s → st.O s' → g.ob s = g.ob s' → s = s'
  row : ∀ r x, st.rw r = some x → RowAt E.w0 w E.X g.F (g.rw r) x
  rowne : ∀ r r' b, st.L r → st.L r' → (g.rw r).ownBlock = some b → (g.rw r').ownBlock = some b → r = r'
  rowob : ∀ r s, st.L r → st.O s → (g.rw r).ownBlock ≠ some (g.ob s)
  F : ∀ b, g.F b → b < w.heap.size ∧ (b < E.w0.heap.size → E.F0 b ∨ E.X b) ∧ (E.F0 b ∨ Wr w b)
  os : w.os = E.w0.os
  tape : w.tape = E.w0.tape
  output : w.output = E.w0.output
  sizes : E.w0.heap.size ≤ w.heap.size
  frame : ∀ b, b < E.w0.heap.size → ¬ E.X b → Fr g E.w0 w b
  shp : ∀ b, g.S b → g.F b ∧ KS g.sw w b
  dep0 : (g.D = E.D ∧ g.dw = E.w0 ∧ g.sh = E.sh) ∧ ∀ b, E.D b → b < E.w0.heap.size ∧ ¬ E.X b ∧ (E.sh = true → ¬ E.F0 b ∧ Wr E.w0 b)
theorem Mem.tbW {P : Program} {E : En} [hT : Tb P E] {g : Gh} {st : St} {w : World} (h : Mem E g st w) {X : Nat → Prop} (hX : ∀ b, b < E.w0.heap.size → ¬ E.X b → ¬ (E.sh = true ∧ E.D b) → ¬ X b) : TbW P w X :=
  hT.tb.step (fun b h1 h2 => by
    rcases h.frame b h1 (fun h => h2 (.inl h)) with h3 | ⟨h3, h4, _⟩
    · exact h3
    · obtain ⟨h5, _, h6⟩ := h.dep0.1
      exact (h2 (.inr ⟨h6 ▸ h3, h5 ▸ h4⟩)).elim) fun b h1 h2 => hX b h1 (fun h => h2 (.inl h)) (fun h => h2 (.inr h))
theorem Mem.dep {E : En} {g : Gh} {st : St} {w : World} (h : Mem E g st w) : ∀ b, g.D b → g.dw = E.w0 ∧ b < E.w0.heap.size ∧ ¬ E.X b ∧ (g.sh = true → ¬ E.F0 b ∧ Wr E.w0 b) := fun b hb => by
  obtain ⟨⟨h1, h2, h3⟩, h4⟩ := h.dep0
  rw [h1] at hb
  rw [h3]
  exact ⟨h2, h4 b hb⟩

/-- Slots and memory. -/
structure Sim (E : En) (g : Gh) (n : Nat) (st : St) (a : Act) (w : World) : Prop where
  mem : Mem E g st w
  size : a.tmps.size = n
  defers : a.defers = []
  tm : ∀ i, i < n → ∃ v, a.tmps[i]? = some v ∧ VR w g st.O st.R (st.tm i) v
  und : ∀ i, n ≤ i → st.tm i = .undef
  lent : ∀ s b, (s, b) ∈ E.lent → st.O s ∧ g.ob s = b
  pin : ∀ v, E.pin = some v → st.R PR ∧ g.rw PR = v

theorem RowAt.slice {w0 w : World} {X F : Nat → Prop} {h : Value} {r : Row} (hr : RowAt w0 w X F h r) : ∃ A n c, h = .slice A n c := by
  cases r with
  | live e sz rows =>
    obtain ⟨inner, ho, _⟩ := hr
    rcases ho.2 with ⟨hv, _⟩ | ⟨g, cap, cur, hv, _⟩
    · exact ⟨_, _, _, hv⟩
    · exact ⟨_, _, _, hv⟩
  | frz sz rows =>
    have hr : Rd w F (.sl sz rows) h := hr
    cases hr with
    | sl0 => exact ⟨_, _, _, rfl⟩
    | sl => exact ⟨_, _, _, rfl⟩
  | gone => exact hr

theorem Mem.hdr {E : En} {g : Gh} {st : St} {w : World} (h : Mem E g st w) : ∀ r, st.R r → ∃ A n c, g.rw r = .slice A n c := by
  intro r hr
  obtain ⟨x, hx⟩ := Option.isSome_iff_exists.1 hr
  exact (h.row r x hx).slice
theorem Mem.one {E : En} {g : Gh} {st : St} {w : World} (h : Mem E g st w) {a : A} {v : Value} (hv : VR w g st.O st.R a v) (ha : a.one = true) : v.oneCell' = true ∧ v.cells = #[v] :=
  hv.one ha h.hdr

theorem RowAt.mono {w0 w w' : World} {X F F' : Nat → Prop} {h : Value} {r : Row} (hr : RowAt w0 w X F h r) (hs : Same F w w') (hF : ∀ b, F b → F' b)
    (hb : (∃ e sz rows, r = .live e sz rows) → ∀ b, h.ownBlock = some b → w'.heap[b]? = w.heap[b]? ∧ (F' b → F b)) : RowAt w0 w' X F' h r := by
  cases r with
  | live e sz rows =>
    obtain ⟨inner, ho, h1, h2, h3⟩ := hr
    replace hb := hb ⟨e, sz, rows, rfl⟩
    refine ⟨inner, ⟨ho.1, ?_⟩, h1, fun i row j x hi hj => ?_, fun b hb' => ⟨fun hf => (h3 b hb').1 ((hb b hb').2 hf), (h3 b hb').2⟩⟩
    · rcases ho.2 with hn | ⟨g, cap, cur, hv, hg, hh, r⟩
      · exact .inl hn
      · exact .inr ⟨g, cap, cur, hv, hg, by rw [(hb g (by rw [hv]; rfl)).1]; exact hh, r⟩
    · obtain ⟨u, hu, hr⟩ := h2 i row j x hi hj
      exact ⟨u, hu, hr.mono hs hF⟩
  | frz sz rows => exact Rd.mono hr hs hF
  | gone => exact hr
end Go.Tm
