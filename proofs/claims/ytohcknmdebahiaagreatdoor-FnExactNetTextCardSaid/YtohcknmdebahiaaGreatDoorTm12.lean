/- What goes in and out of a call: data without names, and the blocks that go with it. -/
import Derived.Test.YtohcknmdebahiaaGreatDoorTm11
set_option linter.unusedVariables false
set_option linter.unusedSimpArgs false
namespace Go.Tm
open Go.RowKit

/-- A cell that is handed on: a tree that is only read; nil; a row that is handed over. -/
inductive C where
  | t (x : T)
  | nil
  | ow (e sz : Nat) (rows : List (List T))
  deriving Inhabited
/-- A value that is handed on: cells; several values; a variable that is lent; one that is only read; a function with what it captured. -/
inductive V where
  | one (c : C)
  | agg (l : List C)
  | tup (l : List V)
  | ptr (cells : List C)
  | fptr (cells : List T)
  | clo (f : FuncId) (caps : List V)
  deriving Inhabited

section
variable (w : World) (F : Nat → Prop)
inductive CV : C → Value → List Nat → Prop
  | t (x : T) (v : Value) (h : Rd w F x v) : CV (.t x) v []
  | nil : CV .nil (.slice none 0 0) []
  | ow (e sz : Nat) (rows : List (List T)) (v : Value) (inner : List Value) (h : w.ownsRow 0 e sz v rows.length inner) (hr : RCs w F sz rows inner) : CV (.ow e sz rows) v v.ownBlock.toList
inductive CVs : List C → List Value → List Nat → Prop
  | nil : CVs [] [] []
  | cons (c : C) (v : Value) (b : List Nat) (cs : List C) (vs : List Value) (bs : List Nat) (h : CV w F c v b) (hs : CVs cs vs bs) : CVs (c :: cs) (v :: vs) (b ++ bs)
mutual
inductive VV : V → Value → List Nat → Prop
  | one (c : C) (v : Value) (bs : List Nat) (h : CV w F c v bs) : VV (.one c) v bs
  | agg (l : List C) (vs : List Value) (bs : List Nat) (h : CVs w F l vs bs) : VV (.agg l) (.agg vs.toArray) bs
  | tup (l : List V) (vs : List Value) (bs : List Nat) (h : VVs l vs bs) : VV (.tup l) (.tuple vs.toArray) bs
  | ptr (cells : List C) (b : Nat) (arr : Array Value) (e : TypeId) (vs : List Value) (bs : List Nat) (hb : w.heap[b]? = some (.cells arr e (0, 0))) (hl : vs = arr.toList.take vs.length) (hle : vs.length ≤ arr.size)
      (h : CVs w F cells vs bs) : VV (.ptr cells) (.pointer (some ⟨b, 0, none⟩)) (b :: bs)
  | fptr (cells : List T) (b off : Nat) (u : Nat → Value) (hF : F b) (hx : ∀ (j : Nat) (x : T), cells[j]? = some x → w.cell? ⟨b, off + j, none⟩ = some (u j)) (hr : ∀ (j : Nat) (x : T), cells[j]? = some x → Rd w F x (u j)) :
      VV (.fptr cells) (.pointer (some ⟨b, off, none⟩)) []
  | clo (f : FuncId) (caps : List V) (vs : List Value) (bs : List Nat) (h : VVs caps vs bs) : VV (.clo f caps) (.func (.func f) #[] vs.toArray) bs
inductive VVs : List V → List Value → List Nat → Prop
  | nil : VVs [] [] []
  | cons (x : V) (v : Value) (b : List Nat) (l : List V) (vs : List Value) (bs : List Nat) (h : VV x v b) (hs : VVs l vs bs) : VVs (x :: l) (v :: vs) (b ++ bs)
end
/-- The variables that were lent, as they come back. -/
inductive Outs : List V → List Value → List (List C) → List Nat → Prop
  | nil : Outs [] [] [] []
  | ptr (c c' : List C) (v : Value) (bs : List Nat) (l : List V) (vs : List Value) (os : List (List C)) (bo : List Nat) (h : VV w F (.ptr c') v bs) (hs : Outs l vs os bo) : Outs (.ptr c :: l) (v :: vs) (c' :: os) (bs ++ bo)
  | skip (x : V) (v : Value) (l : List V) (vs : List Value) (os : List (List C)) (bo : List Nat) (hx : ∀ c, x ≠ .ptr c) (hs : Outs l vs os bo) : Outs (x :: l) (v :: vs) os bo
end

def Callable (P : Program) (f : FuncId) : Prop := ∃ fn, P.funcs[f]? = some fn ∧ fn.body.isNone = false ∧ (fn.name == "runtime.NumGoroutine") = false

/-- THE CONTRACT: called with these data the function returns these, and leaves what it was lent so. -/
def CallOK (P : Program) (f : FuncId) (args : List V) (res : V) (outs : List (List C)) : Prop :=
  Callable P f ∧ ∀ (w : World) (F : Nat → Prop) (vs : List Value) (bs : List Nat), (∀ b, F b → b < w.heap.size) → VVs w F args vs bs → bs.Nodup → (∀ b ∈ bs, ¬ F b) → TbW P w (fun b => b ∈ bs) →
    Calls P f vs.toArray w fun e w' => ∃ v F' bv bo, e = .returned v ∧ Calm w w' ∧ (∀ b, b < w.heap.size → b ∉ bs → w'.heap[b]? = w.heap[b]?) ∧ (∀ b, F b → F' b) ∧
      (∀ b, F' b → b < w'.heap.size ∧ (b < w.heap.size → F b ∨ b ∈ bs) ∧ (F b ∨ Wr w' b)) ∧ VV w' F' res v bv ∧ Outs w' F' args vs outs bo ∧ (bv ++ bo).Nodup ∧ ∀ b ∈ bv ++ bo, ¬ F' b ∧ (w.heap.size ≤ b ∨ b ∈ bs)

/-! ### handing on -/
/-- A cell: a row of one's own is handed over (m) or only read from now on. -/
def A.toC {α : Type} (m : Bool) (a : A) (k : C → MA α) : MA α := match m, a with
  | true, .own r => .getRw r fun
    | some (.live e sz rows) => .setRw r .gone (k (.ow e sz rows))
    | some (.frz sz rows) => k (.t (.sl sz rows))
    | _ => .fail
  | true, .nil => k .nil
  | _, a => a.toT fun x => k (.t x)
def A.toCs {α : Type} (m : Bool) : List A → (List C → MA α) → MA α
  | [], k => k []
  | a :: r, k => a.toC m fun x => A.toCs m r fun xs => k (x :: xs)
def obLend {α : Type} (s : Nat) (k : List C → MA α) : MA α := .getOb s fun
  | some (c :: cells) => A.toCs true (c :: cells) fun cs => .setOb s [] (k cs)
  | _ => .fail
mutual
def A.toV {α : Type} (m : Bool) : A → (V → MA α) → MA α
  | .agg l, k => A.toCs m l fun cs => k (.agg cs)
  | .fadr ts, k => k (.fptr ts)
  | .clo f caps, k => A.toVs m caps fun vs => k (.clo f vs)
  | .tup l, k => A.toVs m l fun vs => k (.tup vs)
  | a, k => a.toC m fun c => k (.one c)
def A.toVs {α : Type} (m : Bool) : List A → (List V → MA α) → MA α
  | [], k => k []
  | a :: r, k => A.toV m a fun x => A.toVs m r fun xs => k (x :: xs)
end

/-- A variable whose cells are trees. -/
def allTs : List A → Option (List T)
  | [] => some []
  | .t x :: r => match allTs r with | some l => some (x :: l) | none => none
  | _ :: _ => none
def obLendP {α : Type} (s : Nat) (k : List C → MA α) : MA α := .getOb s fun
  | some (c :: cells) => match allTs (c :: cells) with | some ts => .setOb s [] (k (ts.map .t)) | none => .fail
  | _ => .fail
/-- The arguments: a variable's address lends it (p: which variables hold trees alone). -/
def passA {α : Type} (m : Bool) (p : Nat → Bool) : List A → (List V → MA α) → MA α
  | [], k => k []
  | .obj s 0 :: r, k => if p s then obLendP s fun cs => passA m p r fun xs => k (.ptr cs :: xs) else obLend s fun cs => passA m p r fun xs => k (.ptr cs :: xs)
  | a :: r, k => A.toV m a fun x => passA m p r fun xs => k (x :: xs)
def slots : List A → List Nat
  | [] => []
  | .obj s 0 :: r => s :: slots r
  | _ :: r => slots r

/-! ### only read for a while -/
def A.peekT {α : Type} (a : A) (k : T → MA α) : MA α := match a with
  | .t x => k x
  | .ext false x => k x
  | .nil => k (.sl 0 [])
  | .own r => .getRw r fun
    | some (.live _ sz rows) => k (.sl sz rows)
    | some (.frz sz rows) => k (.sl sz rows)
    | _ => .fail
  | _ => .fail
def A.peekTs {α : Type} : List A → (List T → MA α) → MA α
  | [], k => k []
  | a :: r, k => a.peekT fun x => A.peekTs r fun xs => k (x :: xs)
mutual
def A.peekV {α : Type} : A → (V → MA α) → MA α
  | .agg l, k => A.peekTs l fun ts => k (.agg (ts.map .t))
  | .fadr ts, k => k (.fptr ts)
  | .clo f caps, k => A.peekVs caps fun vs => k (.clo f vs)
  | a, k => a.peekT fun x => k (.one (.t x))
def A.peekVs {α : Type} : List A → (List V → MA α) → MA α
  | [], k => k []
  | a :: r, k => A.peekV a fun x => A.peekVs r fun xs => k (x :: xs)
end
def C.plain : C → Prop
  | .t x => x.sc = true
  | .nil => True
  | .ow _ _ rows => ∀ row ∈ rows, ∀ x ∈ row, T.sc x = true
mutual
def V.plain : V → Prop
  | .one c => c.plain
  | .agg l => ∀ c ∈ l, c.plain
  | .tup l => V.plains l
  | _ => False
def V.plains : List V → Prop
  | [] => True
  | v :: r => v.plain ∧ V.plains r
end

/-! ### taking in: ids from k on -/
def C.toA {α : Type} (d id : Nat) (c : C) (k : A → MA α) : MA α := match c with
  | .t x => k (.t x)
  | .nil => k .nil
  | .ow e sz rows => if id / 65536 = d then .getRw id fun
    | none => .setRw id (.live e sz rows) (k (.own id))
    | some _ => .fail
    else .fail
def C.toAs {α : Type} (d : Nat) : Nat → List C → (List A → MA α) → MA α
  | _, [], k => k []
  | id, c :: r, k => c.toA d id fun x => C.toAs d (id + 1) r fun xs => k (x :: xs)
mutual
def V.toA {α : Type} (d : Nat) : Nat → V → (A → MA α) → MA α
  | id, .one c, k => c.toA d id k
  | id, .agg l, k => C.toAs d id l fun as => k (.agg as)
  | id, .tup l, k => V.toAs d id l fun as => k (.tup as)
  | id, .ptr cells, k => C.toAs d id cells fun as => .getOb d fun
    | none => .setOb d as (k (.obj d 0))
    | some _ => .fail
  | _, .fptr ts, k => k (.fadr ts)
  | id, .clo f caps, k => V.toAs d id caps fun as => k (.clo f as)
def V.toAs {α : Type} (d : Nat) : Nat → List V → (List A → MA α) → MA α
  | _, [], k => k []
  | id, v :: r, k => V.toA d id v fun x => V.toAs d (id + 1024) r fun xs => k (x :: xs)
end

section
variable {P : Program} {E : En} {g : Gh} {st st' : St} {w : World}

theorem CV.mono {w w' : World} {F F' : Nat → Prop} {c : C} {v : Value} {bs : List Nat} (h : CV w F c v bs) (hs : Same F w w') (hF : ∀ b, F b → F' b) (hb : ∀ b ∈ bs, w'.heap[b]? = w.heap[b]?) : CV w' F' c v bs := by
  cases h with
  | t x v h => exact .t x v (h.mono hs hF)
  | nil => exact .nil
  | ow e sz rows v inner h hr =>
    refine .ow e sz rows v inner ⟨h.1, ?_⟩ (hr.mono hs hF)
    rcases h.2 with hn | ⟨b, cap, cur, hv, hg, hh, r⟩
    · exact .inl hn
    · exact .inr ⟨b, cap, cur, hv, hg, by rw [hb b (by rw [hv]; simp [Value.ownBlock])]; exact hh, r⟩
theorem CVs.mono {w w' : World} {F F' : Nat → Prop} {cs : List C} {vs : List Value} {bs : List Nat} (h : CVs w F cs vs bs) (hs : Same F w w') (hF : ∀ b, F b → F' b) (hb : ∀ b ∈ bs, w'.heap[b]? = w.heap[b]?) : CVs w' F' cs vs bs := by
  induction h with
  | nil => exact .nil
  | cons c v b cs vs bs h hs' ih => exact .cons c v b cs vs bs (h.mono hs hF (fun x hx => hb x (by simp [hx]))) (ih (fun x hx => hb x (by simp [hx])))
theorem CVs.len {w : World} {F : Nat → Prop} {cs : List C} {vs : List Value} {bs : List Nat} (h : CVs w F cs vs bs) : cs.length = vs.length := by
  induction h with
  | nil => rfl
  | cons c v b cs vs bs h hs ih => simp [ih]
theorem CV.one {w : World} {F : Nat → Prop} {c : C} {v : Value} {bs : List Nat} (h : CV w F c v bs) : v.oneCell' = true ∧ v.cells = #[v] := by
  cases h with
  | t x v h => exact h.one
  | nil => exact ⟨rfl, rfl⟩
  | ow e sz rows v inner h hr =>
    rcases h.2 with ⟨rfl, _⟩ | ⟨b, cap, cur, rfl, _⟩ <;> exact ⟨rfl, rfl⟩

mutual
theorem VV.mono {w w' : World} {F F' : Nat → Prop} {x : V} {v : Value} {bs : List Nat} (h : VV w F x v bs) (hs : Same F w w') (hF : ∀ b, F b → F' b) (hb : ∀ b ∈ bs, w'.heap[b]? = w.heap[b]?) : VV w' F' x v bs :=
  match h with
  | .one c v bs h => .one c v bs (h.mono hs hF hb)
  | .agg l vs bs h => .agg l vs bs (h.mono hs hF hb)
  | .tup l vs bs h => .tup l vs bs (h.mono hs hF hb)
  | .ptr cells b arr e vs bs h1 h2 h3 h => .ptr cells b arr e vs bs (by rw [hb b (by simp)]; exact h1) h2 h3 (h.mono hs hF (fun x hx => hb x (by simp [hx])))
  | .fptr cells b off u h1 h2 h3 => .fptr cells b off u (hF b h1) (fun j x hj => by rw [cell_same hs h1]; exact h2 j x hj) (fun j x hj => (h3 j x hj).mono hs hF)
  | .clo f caps vs bs h => .clo f caps vs bs (h.mono hs hF hb)
theorem VVs.mono {w w' : World} {F F' : Nat → Prop} {l : List V} {vs : List Value} {bs : List Nat} (h : VVs w F l vs bs) (hs : Same F w w') (hF : ∀ b, F b → F' b) (hb : ∀ b ∈ bs, w'.heap[b]? = w.heap[b]?) : VVs w' F' l vs bs :=
  match h with
  | .nil => .nil
  | .cons x v b l vs bs h hs' => .cons x v b l vs bs (h.mono hs hF (fun x hx => hb x (by simp [hx]))) (hs'.mono hs hF (fun x hx => hb x (by simp [hx])))
end
end
end Go.Tm
