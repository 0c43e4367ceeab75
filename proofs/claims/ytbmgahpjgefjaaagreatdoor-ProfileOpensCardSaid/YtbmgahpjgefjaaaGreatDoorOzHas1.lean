/-
  A hash in progress, within a keyed hash or alone: its cells, and what a block does to it.
-/
import Derived.Test.YtbmgahpjgefjaaaGreatDoorPo11
import Derived.Test.YtbmgahpjgefjaaaGreatDoorPo12
namespace Go.Proofs.YtbmgahpjgefjaaaGreatDoor.Aes
open Go.Sim
open Go.Proofs
variable {α:Type}
structure HSt where
  K:Nat→BitVec 8
  ws:List W32
  R:Nat→BitVec 8
  n:Nat
noncomputable def tabB (X:Nat→BitVec 8) (n:Nat):List (BitVec 8):=mapN X (q5a n 0)
noncomputable def qec (S:HSt):List SV:=app (wx (q0a S.ws)) (app (bx (tabB S.R 64)) [.int .i64 (.sym S.n)])
noncomputable def q1b (S:HSt):List SV:=app (bx (tabB S.K 128)) (app (qec S) [.bool (.lit true)])
noncomputable def qys (S:HSt) (ws:List W32):HSt:=⟨S.K,ws,S.R,S.n⟩
set_option maxRecDepth 100000
theorem jgo (S:HSt) (w:Bool) (el:TypeId):outP [4] (qca qps 40000 127 [.ptr ⟨4,.lit 128⟩,.slice ⟨4,.lit 136⟩ (.lit 64) (.lit 64)] (q5c [.own (.lst (q1b S)) w el])) =
    ([],some (.tuple [],[some (.own (.lst (q1b (qys S (cmpW (q0a S.ws) (q6a S.R 0))))) w el)])):=by kernel_rfl
theorem jho (S:HSt) (X:Nat→BitVec 8) (n m o:Nat) (w:Bool) (el:TypeId):outP [4] (qca qps 40000 127 [.ptr ⟨4,.lit 128⟩,.slice ⟨5,.sym o⟩ (.lit 64) (.sym m)] (q5c [.own (.lst (q1b S)) w el,rowF X n])) =
    (addC n m o,some (.tuple [],[some (.own (.lst (q1b (qys S (cmpW (q0a S.ws) (q6a X o))))) w el)])):=by kernel_rfl
theorem jio (S T:HSt) (w:Bool) (el:TypeId):outP [4] (qca qps 40000 127 [.ptr ⟨4,.lit 0⟩,.slice ⟨5,.lit 0⟩ (.lit 64) (.lit 64)] (q5c [.own (.lst (qec S)) w el,.row (.lst (q1b T))])) =
    ([],some (.tuple [],[some (.own (.lst (qec (qys S (cmpW (q0a S.ws) (q6a T.K 0))))) w el)])):=by kernel_rfl
theorem joh (S T:HSt) (w:Bool) (el:TypeId):outP [4] (qca qps 40000 127 [.ptr ⟨4,.lit 0⟩,.slice ⟨5,.lit 64⟩ (.lit 64) (.lit 64)] (q5c [.own (.lst (qec S)) w el,.row (.lst (q1b T))])) =
    ([],some (.tuple [],[some (.own (.lst (qec (qys S (cmpW (q0a S.ws) (q6a T.K 64))))) w el)])):=by kernel_rfl
end Go.Proofs.YtbmgahpjgefjaaaGreatDoor.Aes
