/-
  ReplayOf: the chapter's examples.
-/
import Derived.Test.YthkgcljngalafaaDoorPq13
import Derived.Test.YthkgcljngalafaaDoorPq6
namespace Go.Proofs.YthkgcljngalafaaDoor.Aes
noncomputable section
open Go.Sim
open Go.Proofs
variable {α:Type}
def j0l (v:SV) (f:Nat->List Nat):List Nat:=match v with | .map n=>f n | _=>[]
def nmC (args:List SV) (H:List SO):List Nat :=
 List.rec (motive:=fun _=>List Nat) [] (fun a _ _=>a.asPtr [] fun a=>optC (qse (nth H a.nm)) [] fun cs=>optC (nth cs 4) [] fun m=>j0l m fun m=>[a.nm,m]) args
def cfgP:Cfg:=q8f (qdc [])
theorem j1l:CfgOK cfgP:=qzd (by simp)
theorem SumAt.any {P:Program} {f:FuncId} {s:Summ} (h:SumAt P (fun _=>none) f s) (glob:Nat->Option Nat):SumAt P glob f s:=fun O w0 β H w base args vs hH _ ha=>h O w0 β H w base args vs hH (.none β) ha
def runP (n:Nat) (f:FuncId):Summ:=qc0 cfgP n f [] nmC
theorem q13 (n:Nat) (f:FuncId) (glob:Nat->Option Nat):SumAt Tryd.prog glob f (runP n f):=SumAt.any (qk9 j1l n f [] nmC fun _ _ h=>by cases h) glob
def qa7:Cfg:=cfgG qhc (qdc [(44,shaS),(38,jkf),(16,runP 2000 16),(15,runP 2000 15)])
theorem jni:CfgOK qa7:=qzd (allS shaOK (allS j4k (allS (q13 _ _ _) (allS (q13 _ _ _) (by simp)))))
end
end Go.Proofs.YthkgcljngalafaaDoor.Aes
