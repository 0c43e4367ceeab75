/-
  ReplayOf: the chapter's examples.
-/
import Derived.Test.YthkgcljngalafaaDoorPp13
import Derived.Test.YthkgcljngalafaaDoorPp6
namespace Go.Proofs.YthkgcljngalafaaDoor.Aes
noncomputable section
open Go.Sim
open Go.Proofs
variable {α:Type}
def jpl (v:SV) (f:Nat->List Nat):List Nat:=match v with | .map n=>f n | _=>[]
def nmC (args:List SV) (H:List SO):List Nat :=
 List.rec (motive:=fun _=>List Nat) [] (fun a _ _=>a.asPtr [] fun a=>optC (qre (nth H a.nm)) [] fun cs=>optC (nth cs 4) [] fun m=>jpl m fun m=>[a.nm,m]) args
def cfgP:Cfg:=q6f (qbc [])
theorem jql:CfgOK cfgP:=qxd (by simp)
theorem SumAt.any {P:Program} {f:FuncId} {s:Summ} (h:SumAt P (fun _=>none) f s) (glob:Nat->Option Nat):SumAt P glob f s:=fun O w0 β H w base args vs hH _ ha=>h O w0 β H w base args vs hH (.none β) ha
def runP (n:Nat) (f:FuncId):Summ:=q9z cfgP n f [] nmC
theorem qx3 (n:Nat) (f:FuncId) (glob:Nat->Option Nat):SumAt Tryd.prog glob f (runP n f):=SumAt.any (qe9 jql n f [] nmC fun _ _ h=>by cases h) glob
def q56:Cfg:=cfgG qfc (qbc [(44,shaS),(38,jdf),(16,runP 2000 16),(15,runP 2000 15)])
theorem jgi:CfgOK q56:=qxd (allS shaOK (allS jtk (allS (qx3 _ _ _) (allS (qx3 _ _ _) (by simp)))))
end
end Go.Proofs.YthkgcljngalafaaDoor.Aes
