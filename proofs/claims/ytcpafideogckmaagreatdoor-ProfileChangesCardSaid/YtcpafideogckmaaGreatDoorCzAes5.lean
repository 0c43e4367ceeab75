/-
  The block cipher, fifth part: the round keys of a key, from runs.
-/
import Derived.Test.YtcpafideogckmaaGreatDoorPc5
namespace Go.Proofs.YtcpafideogckmaaGreatDoor.Aes
noncomputable section
open Go.Sim
open Go.Proofs
variable {α:Type}
def j0n (f:BitVec 8) (k:List (BitVec 8)):List (BitVec 8) :=
 let n0:=qba k 0 ^^^ (subB (qba k 13) ^^^ f)
 let n1:=qba k 1 ^^^ subB (qba k 14)
 let n2:=qba k 2 ^^^ subB (qba k 15)
 let n3:=qba k 3 ^^^ subB (qba k 12)
 let n4:=qba k 4 ^^^ n0
 let n5:=qba k 5 ^^^ n1
 let n6:=qba k 6 ^^^ n2
 let n7:=qba k 7 ^^^ n3
 let n8:=qba k 8 ^^^ n4
 let n9:=qba k 9 ^^^ n5
 let na:=qba k 10 ^^^ n6
 let nb:=qba k 11 ^^^ n7
 [n0,n1,n2,n3,n4,n5,n6,n7,n8,n9,na,nb,qba k 12 ^^^ n8,qba k 13 ^^^ n9,qba k 14 ^^^ na,qba k 15 ^^^ nb]
def powB (r:Nat):BitVec 8:=Nat.rec (BitVec.ofInt 8 1) (fun _ x=>dbl x) r
def jjg (n:Nat):Nat->List (BitVec 8)->List (BitVec 8) :=
 Nat.rec (motive:=fun _=>Nat->List (BitVec 8)->List (BitVec 8)) (fun _ k=>k) (fun _ ih r k=>app k (ih (Nat.succ r) (j0n (powB r) k))) n
def q9e (k:List (BitVec 8)):List (BitVec 8):=jjg 10 0 k
def qkm (n:Nat):List Int:=repN 0 n
def qkw:SO:=.own (.lst (app (lx (qkm 688)) [.bool (.lit true)])) true 150
def qmg:SO:=.own (.lst (app (lx tabI) (app (lx (qkm 176)) [.bool (.lit true)]))) true 150
def qeo (ks:List (BitVec 8)):SO:=.own (.lst (q0c ks)) true 150
def cfg6:Cfg:=qle (qbb [(117,qrs subB),(118,dblS)])
theorem jzs:CfgOK cfg6:=q8b (allC qcz (all1 qg8))
theorem jkg:outP [0] (qca cfg0 20000 105 [.ptr ⟨0,.lit 0⟩] [qkw])=([],some (.tuple [],[some qmg])):=by kernel_rfl
theorem qj8 (X:Nat->BitVec 8) (o n m:Nat):outP [0] (qca cfg6 20000 106 [.ptr ⟨0,.lit 0⟩,.slice ⟨1,.sym o⟩ (.lit 16) (.sym m)] [qmg,rowF X n])=([4<=m,o+0+4<=n,8<=m,o+4+4<=n,12<=m,o+8+4<=n,16<=m,o+12+4<=n],some (.tuple [],[some (qeo (q9e (qha X o)))])):=by kernel_rfl
end
end Go.Proofs.YtcpafideogckmaaGreatDoor.Aes
