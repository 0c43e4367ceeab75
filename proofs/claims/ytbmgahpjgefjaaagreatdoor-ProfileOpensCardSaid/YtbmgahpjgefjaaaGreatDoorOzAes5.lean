/-
  The block cipher, fifth part: the round keys of a key, from runs.
-/
import Derived.Test.YtbmgahpjgefjaaaGreatDoorPo5
namespace Go.Proofs.YtbmgahpjgefjaaaGreatDoor.Aes
open Go.Sim
open Go.Proofs
variable {α:Type}
def jdn (f:BitVec 8) (k:List (BitVec 8)):List (BitVec 8) :=
  let n0:=qaa k 0 ^^^ (subB (qaa k 13) ^^^ f)
  let n1:=qaa k 1 ^^^ subB (qaa k 14)
  let n2:=qaa k 2 ^^^ subB (qaa k 15)
  let n3:=qaa k 3 ^^^ subB (qaa k 12)
  let n4:=qaa k 4 ^^^ n0
  let n5:=qaa k 5 ^^^ n1
  let n6:=qaa k 6 ^^^ n2
  let n7:=qaa k 7 ^^^ n3
  let n8:=qaa k 8 ^^^ n4
  let n9:=qaa k 9 ^^^ n5
  let na:=qaa k 10 ^^^ n6
  let nb:=qaa k 11 ^^^ n7
  [n0,n1,n2,n3,n4,n5,n6,n7,n8,n9,na,nb,qaa k 12 ^^^ n8,qaa k 13 ^^^ n9,qaa k 14 ^^^ na,qaa k 15 ^^^ nb]
def powB (r:Nat):BitVec 8:=Nat.rec (BitVec.ofInt 8 1) (fun _ x=>dbl x) r
noncomputable def j3f (n:Nat):Nat→List (BitVec 8)→List (BitVec 8) :=
  Nat.rec (motive:=fun _=>Nat→List (BitVec 8)→List (BitVec 8)) (fun _ k=>k) (fun _ ih r k=>app k (ih (Nat.succ r) (jdn (powB r) k))) n
noncomputable def q5e (k:List (BitVec 8)):List (BitVec 8):=j3f 10 0 k
noncomputable def qhm (n:Nat):List Int:=repN 0 n
noncomputable def q3v:SO:=.own (.lst (app (lx (qhm 688)) [.bool (.lit true)])) true 209
noncomputable def qeg:SO:=.own (.lst (app (lx tabI) (app (lx (qhm 176)) [.bool (.lit true)]))) true 209
noncomputable def qao (ks:List (BitVec 8)):SO:=.own (.lst (qyc ks)) true 209
noncomputable def cfg6:Cfg:=qie (qbb [(174,qes subB),(175,dblS)])
theorem j1r:CfgOK cfg6:=q8b (allC q4y (all1 qa8))
theorem j4f:outP [0] (qca cfg0 20000 163 [.ptr ⟨0,.lit 0⟩] [q3v])=([],some (.tuple [],[some qeg])):=by kernel_rfl
theorem qd8 (X:Nat→BitVec 8) (o n m:Nat):outP [0] (qca cfg6 20000 164 [.ptr ⟨0,.lit 0⟩,.slice ⟨1,.sym o⟩ (.lit 16) (.sym m)] [qeg,rowF X n])=([4≤m,o+0+4≤n,8≤m,o+4+4≤n,12≤m,o+8+4≤n,16≤m,o+12+4≤n],some (.tuple [],[some (qao (q5e (qha X o)))])):=by kernel_rfl
end Go.Proofs.YtbmgahpjgefjaaaGreatDoor.Aes
