/- The abstract machine over data trees, and that it tells the truth of the translated code. -/
import Derived.Calls
import Derived.Below
import Derived.RowKit3
import Derived.KernelRfl
import Derived.Laws.BytesArg
import Derived.Lib.ItoaMem
import Derived.Laws.MakeOwn
import Derived.Laws.OwnMore
import Derived.Laws.CopyRow
import Derived.Laws.Tables
import Derived.Maps.AppendAt
import Derived.Laws.Entries
import Derived.Laws.StructEq
import Derived.Laws.Small
import Derived.Laws.IdiomCopy
import Derived.Laws.Cover3
import Derived.Orders
import Derived.ChangeOld
import Derived.ChangeArms
import Derived.Carry
import Derived.OpenShut
import Derived.IntWalk
import Derived.JoinedOf
import Derived.Test.YthofgdapoklllaaGreatCFnCommitsBentF2
set_option linter.unusedVariables false
set_option linter.unusedSimpArgs false
namespace Go.Tm
open Go
def runB (P:Program):Nat→List FuncId→List FuncId→Nat→List FuncId×List FuncId×Nat
  | 0,todo,seen,m=>(todo,seen,m)
  | n+1,[],seen,m=>([],seen,m)
  | n+1,f :: todo,seen,m=>if m.testBit f then runB P n todo seen m else runB P n ((P.funcs[f]?).elim [] P.leadsTo++todo) (f :: seen) (m ||| 2 ^ f)
def okB (seen:List FuncId) (m:Nat):Prop:=∀ f:Nat,seen.contains f=m.testBit f
theorem okB_add {seen:List FuncId} {m:Nat} (h:okB seen m) (f:Nat):okB (f :: seen) (m ||| 2 ^ f):=fun g=>by
  rw [List.contains_cons,h g,Nat.testBit_or,Nat.testBit_two_pow,Bool.or_comm]
  congr 1
  by_cases hg:g=f
  · simp [hg]
  · have:¬ f=g:=fun h=>hg h.symm
    simp [hg,this]
theorem runB_via (P:Program):∀ (a b:Nat) (todo seen:List FuncId) (m:Nat),okB seen m→P.closureVia (a+b) todo seen=P.closureVia b (runB P a todo seen m).1 (runB P a todo seen m).2.1
  | 0,b,todo,seen,m,h=>by rw [Nat.zero_add]; rfl
  | a+1,b,[],seen,m,h=>by
    rw [show a+1+b=(a+b)+1 by omega]
    show seen.reverse=P.closureVia b [] seen
    cases b <;> rfl
  | a+1,b,f :: todo,seen,m,h=>by
    rw [show a+1+b=(a+b)+1 by omega]
    rw [show P.closureVia ((a+b)+1) (f :: todo) seen=if seen.contains f then P.closureVia (a+b) todo seen else P.closureVia (a+b) ((P.funcs[f]?).elim [] P.leadsTo++todo) (f :: seen) from rfl,
      show runB P (a+1) (f :: todo) seen m=if m.testBit f then runB P a todo seen m else runB P a ((P.funcs[f]?).elim [] P.leadsTo++todo) (f :: seen) (m ||| 2 ^ f) from rfl,h f]
    cases m.testBit f with
    | true=>exact runB_via P a b todo seen m h
    | false=>exact runB_via P a b _ _ _ (okB_add h f)
def fuelC (P:Program):Nat:=1+(P.funcs.toList.map fun g=>(P.leadsTo g).length+1).sum
theorem closure_of {P:Program} {f:FuncId} {a m:Nat} {L:List FuncId} (h:runB P a [f] [] 0=([],L.reverse,m)) (hF:Nat.ble a (fuelC P)=true):P.closure f=L:=by
  have hle:=Nat.le_of_ble_eq_true hF
  unfold Program.closure
  show P.closureVia (fuelC P) [f] []=L
  rw [show fuelC P=a+(fuelC P - a) by omega,runB_via P a _ _ _ 0 (fun g=>by simp),h]
  cases fuelC P - a <;> simp [Program.closureVia]
theorem inPlace_of {P:Program} {f:FuncId} {L:List FuncId} {l:List String} (h:P.closure f=L) (h2:(L.filterMap fun g=>(P.funcs[g]?).bind fun fn=>if fn.ours || fn.body.isNone || fn.name == "runtime.NumGoroutine" then some fn.name else none)=l):P.inPlace f=l:=by
  unfold Program.inPlace; rw [h,h2]
theorem unfollowed_of {P:Program} {f:FuncId} {L:List FuncId} {b:Bool} (h:P.closure f=L) (h2:(L.any fun g=>(P.funcs[g]?).any fun fn=>match fn.body with | some c=>c.unfollowed | none=>entryCalls fn)=b):P.unfollowed f=b:=by
  unfold Program.unfollowed; rw [h]; exact h2
theorem recurses_of {P:Program} {f:FuncId} (h:P.unfollowed f=true):P.recurses f=true:=by
  unfold Program.recurses; rw [h]; rfl
theorem varsNamed_of {P:Program} {f:FuncId} {L:List FuncId} {l:List String} (h:P.closure f=L) (h2:((((L.flatMap fun g=>((P.funcs[g]?).bind (·.body)).elim [] Code.globalsNamed).eraseDups).filterMap (fun g=>(P.globals[g]?).map (·.name)) ++
   L.filterMap fun g=>(P.funcs[g]?).bind fun fn=>if fn.body.isNone then entryReads.lookup fn.name else none).eraseDups)=l):P.varsNamed f=l:=by
  unfold Program.varsNamed; rw [h,h2]
end Go.Tm
