/-
  A keyed hash begun: New.
-/
import Derived.Test.YtcpafideogckmaaGreatDoorPc13
namespace Go.Proofs.YtcpafideogckmaaGreatDoor.Aes
noncomputable section
open Go.Sim
open Go.Proofs
variable {α:Type}
set_option maxRecDepth 1000000
def cfgN:Cfg:=cfgG q3b (qbb [(115,qm9),(99,j0l shaF)])
theorem qm3:CfgOK cfgN:=qwb (allS jke (allS sumOK (by simp)))
def nwT (X:Nat->BitVec 8) (N o n m:Nat):Tree:=qca cfgN 16000 80 [.slice ⟨4,.sym o⟩ (.sym n) (.sym m)] (qpc [rowF X N])
def newK (k:Nat->BitVec 8):Nat->BitVec 8:=fun i=>if i<64 then k i ^^^ 0x5c#8 else k (i - 64) ^^^ 0x36#8
def newH (k:Nat->BitVec 8):HSt:=⟨newK k,cmpW (q0a qyc) (q7a (newK k) 64),fun _=>0#8,64⟩
def okV (nm:Nat):SV:=.tuple [.ptr ⟨nm,.lit 0⟩,.int .i64 (.lit 0)]
def key1 (X:Nat->BitVec 8) (o n:Nat):Nat->BitVec 8:=fun i=>if 0<=i/\i<0+n then X (o+i) else BitVec.ofNat 8 0
def key2 (X:Nat->BitVec 8) (o n:Nat):Nat->BitVec 8:=fun i=>if i<32 then qba (shaF (fun j=>X (o+j)) n) i else BitVec.ofNat 8 0
def macL (l:List SV) (S:HSt):SO:=.own (.lst (app l (app (qfc S) [.bool (.lit true)]))) true 142
def j4l:List SV:=app (kx .u8 (repN 92 64)) (kx .u8 (repN 54 64))
def j5l (X:Nat->BitVec 8) (o n:Nat):List SV:=app (app (bx (tabB (fun i=>qba (shaF (fun j=>X (o+j)) n) i ^^^ 0x5c#8) 32)) (kx .u8 (repN 92 32))) (app (bx (tabB (fun i=>qba (shaF (fun j=>X (o+j)) n) i ^^^ 0x36#8) 32)) (kx .u8 (repN 54 32)))
theorem jci:unb j4l=some (tabB (newK fun _=>0#8) 128):=by kernel_rfl
theorem jdi (X:Nat->BitVec 8) (o n:Nat):unb (j5l X o n)=some (tabB (newK (key2 X o n)) 128):=by kernel_rfl
section
variable (X:Nat->BitVec 8) (N o n m:Nat)
theorem jcp:outO [7] (qca cfgN 16000 80 [.nilSlice] (qpc [])) []=([(0:Int)<=64,(0:Int)<=0],some (okV 7,[some (macL j4l (newH fun _=>0#8))])):=by kernel_rfl
theorem jei:outO [8] (nwT X N o n m) [false,false]=([decide ((n:Int) > 4096)=false,decide ((n:Int) > 64)=false,(o+n<=N/\IsB (qea X)),n<=64,0+n<=64,(0:Int)<=64,(0:Int)<=0],some (okV 8,[some (macE (newH (key1 X o n)))])):=by kernel_rfl
theorem jfi:outO [9] (nwT X N o n m) [false,true]=([decide ((n:Int) > 4096)=false,decide ((n:Int) > 64)=true,IsB (qea X),o+n<=N,(0:Int)<=64,(0:Int)<=0],some (okV 9,[some (macL (j5l X o n) (newH (key2 X o n)))])):=by kernel_rfl
end
end
end Go.Proofs.YtcpafideogckmaaGreatDoor.Aes
