/-
  A hash in progress, within a keyed hash or alone: its cells, and what a block does to it.
-/
import Derived.Test.YtcpafideogckmaaGreatDoorPc11
import Derived.Test.YtcpafideogckmaaGreatDoorPc12
namespace Go.Proofs.YtcpafideogckmaaGreatDoor.Aes
noncomputable section
open Go.Sim
open Go.Proofs
variable {α:Type}
structure HSt where
 K:Nat->BitVec 8
 ws:List W32
 R:Nat->BitVec 8
 n:Nat
def tabB (X:Nat->BitVec 8) (n:Nat):List (BitVec 8):=mapN X (q6a n 0)
def qfc (S:HSt):List SV:=app (wx (q0a S.ws)) (app (bx (tabB S.R 64)) [.int .i64 (.sym S.n)])
def q2b (S:HSt):List SV:=app (bx (tabB S.K 128)) (app (qfc S) [.bool (.lit true)])
def qct (S:HSt) (ws:List W32):HSt:=⟨S.K,ws,S.R,S.n⟩
set_option maxRecDepth 100000
theorem j3o (S:HSt) (w:Bool) (el:TypeId):outP [4] (qca q3s 40000 115 [.ptr ⟨4,.lit 128⟩,.slice ⟨4,.lit 136⟩ (.lit 64) (.lit 64)] (qpc [.own (.lst (q2b S)) w el])) =
  ([],some (.tuple [],[some (.own (.lst (q2b (qct S (cmpW (q0a S.ws) (q7a S.R 0))))) w el)])):=by kernel_rfl
theorem j4o (S:HSt) (X:Nat->BitVec 8) (n m o:Nat) (w:Bool) (el:TypeId):outP [4] (qca q3s 40000 115 [.ptr ⟨4,.lit 128⟩,.slice ⟨5,.sym o⟩ (.lit 64) (.sym m)] (qpc [.own (.lst (q2b S)) w el,rowF X n])) =
  (addC n m o,some (.tuple [],[some (.own (.lst (q2b (qct S (cmpW (q0a S.ws) (q7a X o))))) w el)])):=by kernel_rfl
theorem j5o (S T:HSt) (w:Bool) (el:TypeId):outP [4] (qca q3s 40000 115 [.ptr ⟨4,.lit 0⟩,.slice ⟨5,.lit 0⟩ (.lit 64) (.lit 64)] (qpc [.own (.lst (qfc S)) w el,.row (.lst (q2b T))])) =
  ([],some (.tuple [],[some (.own (.lst (qfc (qct S (cmpW (q0a S.ws) (q7a T.K 0))))) w el)])):=by kernel_rfl
theorem j4h (S T:HSt) (w:Bool) (el:TypeId):outP [4] (qca q3s 40000 115 [.ptr ⟨4,.lit 0⟩,.slice ⟨5,.lit 64⟩ (.lit 64) (.lit 64)] (qpc [.own (.lst (qfc S)) w el,.row (.lst (q2b T))])) =
  ([],some (.tuple [],[some (.own (.lst (qfc (qct S (cmpW (q0a S.ws) (q7a T.K 64))))) w el)])):=by kernel_rfl
end
end Go.Proofs.YtcpafideogckmaaGreatDoor.Aes
