/- Small words for printed walks; arguments seen another way. -/
import Derived.Test.YtohcknmdebahiaaGreatDoorTm31
set_option linter.unusedVariables false
set_option linter.unusedSimpArgs false
namespace Go.Tm
open Go.RowKit

theorem cond_t {β : Type} {e : Bool} {x y : β} {r : β} (h : (bif e then x else y) = r) (hc : e = true) : x = r := by rw [hc] at h; exact h
theorem cond_f {β : Type} {e : Bool} {x y : β} {r : β} (h : (bif e then x else y) = r) (hc : e = false) : y = r := by rw [hc] at h; exact h
def bAdd (k : IntKind) (a b : Int) : Int := k.wrap (a + b)
def bSub (k : IntKind) (a b : Int) : Int := k.wrap (a - b)
def bMul (k : IntKind) (a b : Int) : Int := k.wrap (a * b)
def bQuo (k : IntKind) (a b : Int) : Int := k.wrap (a.tdiv b)
def bRem (k : IntKind) (a b : Int) : Int := a.tmod b
def bAnd (k : IntKind) (a b : Int) : Int := k.wrap (BitVec.ofInt k.bits a &&& BitVec.ofInt k.bits b).toNat
def bOr (k : IntKind) (a b : Int) : Int := k.wrap (BitVec.ofInt k.bits a ||| BitVec.ofInt k.bits b).toNat
def bXor (k : IntKind) (a b : Int) : Int := k.wrap (BitVec.ofInt k.bits a ^^^ BitVec.ofInt k.bits b).toNat
def bAndNot (k : IntKind) (a b : Int) : Int := k.wrap (BitVec.ofInt k.bits a &&& ~~~ BitVec.ofInt k.bits b).toNat
def bShl (k : IntKind) (a b : Int) : Int := k.wrap (a * 2 ^ min b.toNat k.bits)
def bShr (k : IntKind) (a b : Int) : Int := a.fdiv (2 ^ min b.toNat k.bits)
theorem tf (b : Bool) : b = true ∨ b = false := by cases b <;> simp

/-- Cells as lists of trees. -/
def eInt (k : IntKind) (n : Int) : List T := [.int k n]
def eBool (b : Bool) : List T := [.bool b]
def eStr (s : ByteArray) : List T := [.str s]
def eSl {α : Type} (sz : Nat) (f : α → List T) (xs : List α) : List T := [.sl sz (xs.map f)]

theorem CallOK.le {P : Program} {f : FuncId} {l l' : List V} {res : V} {outs : List (List C)} (h : CallOK P f l' res outs) (hl : VLes l l') : CallOK P f l res outs := by
  refine ⟨h.1, fun w F vs bs hF hV hn hb htb => (h.2 w F vs bs hF (vvs_le hl hV) hn hb htb).mono fun e w' hh => ?_⟩
  obtain ⟨v, F', bv, bo, h1, h2, h3, h4, h5, h6, h7, h8, h9⟩ := hh
  exact ⟨v, F', bv, bo, h1, h2, h3, h4, h5, h6, outs_le h7 hl, h8, h9⟩
end Go.Tm
