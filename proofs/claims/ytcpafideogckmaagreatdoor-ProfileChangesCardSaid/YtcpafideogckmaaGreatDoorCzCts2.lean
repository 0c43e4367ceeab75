/-
  Chained blocks, second part: the chain of blocks on lists; what a run of Encrypt comes to, for each number of blocks.
-/
import Derived.Test.YtcpafideogckmaaGreatDoorPc7
namespace Go.Proofs.YtcpafideogckmaaGreatDoor.Aes
noncomputable section
open Go.Sim
open Go.Proofs
variable {α:Type}
abbrev Blk:=List (BitVec 8)
def chainL (ks:Nat->BitVec 8) (bs:List Blk):Blk->List Blk:=List.rec (motive:=fun _=>Blk->List Blk) (fun _=>[]) (fun b _ ih prev=>encL ks (addL prev b)::ih (encL ks (addL prev b))) bs
def swL (l:List Blk):List Blk:=List.rec (motive:=fun _=>List Blk) [] (fun a r ih=>List.rec (motive:=fun _=>List Blk) [a] (fun b r' _=>List.rec (motive:=fun _=>List Blk) [b,a] (fun _ _ _=>a::ih) r') r) l
def q3m (l:List Blk):Blk:=List.rec (motive:=fun _=>Blk) [] (fun a _ ih=>app a ih) l
def q6c (Z:Nat->BitVec 8) (o:Nat) (n:Nat):List Blk:=mapN (fun i=>qha Z (o+16 * i)) (q6a n 0)
def quf:Cfg:=qle (qbb [(47,qvr),(79,jil),(86,jkl),(89,qrr encL),(78,qrr decL),(91,mnzS)])
theorem qx5:CfgOK quf:=q8b (allC qxs (allC j7s (allC jat (allC j6c (allC j7c (all1 mnzOK))))))
def q4h (X Y:Nat->BitVec 8) (o n o2 n2:Nat) (r:List Prop):List Prop:=IsB (qea X)::(o+16<=n)::IsB (qea Y)::(o2+16<=n2)::r
def qw2 (Z:Nat->BitVec 8) (o3 n3 m3:Nat) (i:Nat) (r:List Prop):List Prop:=(16 * i+16<=m3)::IsB (qea Z)::(16<=16/\o3+16 * i+16<=n3)::(16<=16)::(16<=16)::r
def jfd (Z:Nat->BitVec 8) (l o3 n3 m3:Nat) (i:Nat) (r:List Prop):List Prop:=(decide (((16 * i:Nat):Int)<(l:Int))=true)::(decide ((l:Int)<((16 * i+16:Nat):Int))=false)::qw2 Z o3 n3 m3 i r
def qgo (f:Nat->List Prop->List Prop) (m:Nat):Nat->List Prop->List Prop:=Nat.rec (motive:=fun _=>Nat->List Prop->List Prop) (fun _ r=>r) (fun _ ih i r=>f i (ih (Nat.succ i) r)) m
def padN (l k:Nat):Nat:=(16 - ((l - k:Nat):Int)).toNat
def qtp (Z:Nat->BitVec 8) (l o3 k:Nat):Nat->BitVec 8:=catB (fun i=>Z (o3+k+i)) (l - k) fun i=>((qzc (padN l k)).data.getD i 0).toBitVec
def cutC (Z:Nat->BitVec 8) (l o3 n3 m3 k:Nat) (r:List Prop):List Prop :=
 (decide ((k:Int)<(l:Int))=true)::(decide ((l:Int)<((k+16:Nat):Int))=true)::(0<=(l:Int)/\(l:Int)<=(m3:Int))::(0<=(l:Int)/\(l:Int)<=(l:Int))::(k<=l)::(decide (l=k)=false)::(decide (((l - k:Nat):Int)<16)=true)
 :: qza (16 - ((l - k:Nat):Int))::(0<=16 - ((l - k:Nat):Int)/\q7e (l - k+padN l k) 1)::(o3+k+(l - k)<=n3/\IsB (qea Z))::(l - k<l - k+(qzc (padN l k)).size/\q7e (l - k+(qzc (padN l k)).size) 1/\1=1)::r
def jll (Z:Nat->BitVec 8) (l o3 n3 m3 k:Nat) (r:List Prop):List Prop :=
 cutC Z l o3 n3 m3 k (((((l - k+(qzc (padN l k)).size:Nat):Int) != 16)=false)::(decide (l - k+(qzc (padN l k)).size=16)=true)::IsB (qea (qtp Z l o3 k))::(16<=16/\16<=l - k+(qzc (padN l k)).size)::(16<=16)::(16<=16)::(decide (((k+16:Nat):Int)<(l:Int))=false)::r)
def encJ (X Y:Nat->BitVec 8) (o o2:Nat) (bs:List Blk):Blk:=q3m (swL (chainL (qba (q9e (qha X o))) bs (qha Y o2)))
def qup (m1 m2 m3 o o2 o3:Nat) (l:SN):List SV:=[.slice ⟨0,.sym o⟩ (.lit 16) (.sym m1),.slice ⟨1,.sym o2⟩ (.lit 16) (.sym m2),.slice ⟨2,.sym o3⟩ l (.sym m3)]
def qvp (X Y Z:Nat->BitVec 8) (n n2 n3:Nat):List SO:=[rowF X n,rowF Y n2,rowF Z n3]
def qwg (nm:Nat) (l:SN):SV:=.tuple [.slice ⟨nm,.lit 0⟩ l (.rest nm 0),.int .i64 (.lit (.ofNat 0))]
def qxg (m:Nat) (X Y Z:Nat->BitVec 8) (n m1 n2 m2 n3 m3 o o2 o3:Nat) (z:Nat->Nat->Nat):List Prop × Option (SV × List (Option SO)) :=
 outZ [Nat.add 21 (Nat.mul 6 m)] (qca quf 20000 59 (qup m1 m2 m3 o o2 o3 (.lit (Nat.mul 16 m))) (qvp X Y Z n n2 n3)) [] z
def jml (m:Nat) (X Y Z:Nat->BitVec 8) (n n2 n3 m3 o o2 o3:Nat):List Prop:=q4h X Y o n o2 n2 (q4h X Y o n o2 n2 (qgo (qw2 Z o3 n3 m3) m 0 [16 * m<=16 * m]))
def qyg (m:Nat) (X Y Z:Nat->BitVec 8) (n n2 n3 m3 o o2 o3:Nat):List Prop × Option (SV × List (Option SO)) :=
 (jml m X Y Z n n2 n3 m3 o o2 o3,some (qwg (21+6 * m) (.lit (Nat.mul 16 m)),[some (.own (.lst (bx (encJ X Y o o2 (q6c Z o3 m)))) false 5)]))
def jnl (e:List Bool) (m:Nat):List Bool:=Nat.rec (motive:=fun _=>List Bool) e (fun _ ih=>true::false::ih) m
def qkh (m:Nat) (X Y Z:Nat->BitVec 8) (n m1 n2 m2 n3 m3 l o o2 o3:Nat) (z:Nat->Nat->Nat):List Prop × Option (SV × List (Option SO)) :=
 outZ [Nat.add 28 (Nat.mul 6 m)] (qca quf 20000 59 (qup m1 m2 m3 o o2 o3 (.sym l)) (qvp X Y Z n n2 n3)) (false::false::jnl [true,true,false,true,false,true,false,false] m) z
def jol (m:Nat) (X Y Z:Nat->BitVec 8) (n n2 n3 m3 l o o2 o3:Nat):List Prop :=
 q4h X Y o n o2 n2 ((decide ((l:Int)<16)=false)::(decide ((l:Int) > 131072)=false)::q4h X Y o n o2 n2 (qgo (jfd Z l o3 n3 m3) m 0 (jll Z l o3 n3 m3 (16 * m) [0<=(l:Int)/\(l:Int)<=((16 * m+16:Nat):Int),decide (l=0)=false,0+l<=16 * m+16/\q7e l 1])))
def qlh (m:Nat) (X Y Z:Nat->BitVec 8) (n n2 n3 m3 l o o2 o3:Nat):List Prop × Option (SV × List (Option SO)) :=
 (jol m X Y Z n n2 n3 m3 l o o2 o3,some (qwg (28+6 * m) (.sym l),[some (.own (.fn (fun i=>qea (qba (encJ X Y o o2 (app (q6c Z o3 m) [qha (qtp Z l o3 (16 * m)) 0]))) (0+i)) l) false 5)]))
section
variable (X Y Z:Nat->BitVec 8) (n m1 n2 m2 n3 m3 l o o2 o3:Nat) (z:Nat->Nat->Nat)
theorem encF1:qxg 1 X Y Z n m1 n2 m2 n3 m3 o o2 o3 z=qyg 1 X Y Z n n2 n3 m3 o o2 o3:=by kernel_rfl
theorem encF2:qxg 2 X Y Z n m1 n2 m2 n3 m3 o o2 o3 z=qyg 2 X Y Z n n2 n3 m3 o o2 o3:=by kernel_rfl
theorem encF3:qxg 3 X Y Z n m1 n2 m2 n3 m3 o o2 o3 z=qyg 3 X Y Z n n2 n3 m3 o o2 o3:=by kernel_rfl
theorem encF4:qxg 4 X Y Z n m1 n2 m2 n3 m3 o o2 o3 z=qyg 4 X Y Z n n2 n3 m3 o o2 o3:=by kernel_rfl
theorem encF5:qxg 5 X Y Z n m1 n2 m2 n3 m3 o o2 o3 z=qyg 5 X Y Z n n2 n3 m3 o o2 o3:=by kernel_rfl
theorem encF6:qxg 6 X Y Z n m1 n2 m2 n3 m3 o o2 o3 z=qyg 6 X Y Z n n2 n3 m3 o o2 o3:=by kernel_rfl
theorem encF7:qxg 7 X Y Z n m1 n2 m2 n3 m3 o o2 o3 z=qyg 7 X Y Z n n2 n3 m3 o o2 o3:=by kernel_rfl
theorem encF8:qxg 8 X Y Z n m1 n2 m2 n3 m3 o o2 o3 z=qyg 8 X Y Z n n2 n3 m3 o o2 o3:=by kernel_rfl
theorem encF9:qxg 9 X Y Z n m1 n2 m2 n3 m3 o o2 o3 z=qyg 9 X Y Z n n2 n3 m3 o o2 o3:=by kernel_rfl
theorem jbt:qxg 10 X Y Z n m1 n2 m2 n3 m3 o o2 o3 z=qyg 10 X Y Z n n2 n3 m3 o o2 o3:=by kernel_rfl
theorem jct:qxg 11 X Y Z n m1 n2 m2 n3 m3 o o2 o3 z=qyg 11 X Y Z n n2 n3 m3 o o2 o3:=by kernel_rfl
theorem jdt:qxg 12 X Y Z n m1 n2 m2 n3 m3 o o2 o3 z=qyg 12 X Y Z n n2 n3 m3 o o2 o3:=by kernel_rfl
theorem jet:qxg 13 X Y Z n m1 n2 m2 n3 m3 o o2 o3 z=qyg 13 X Y Z n n2 n3 m3 o o2 o3:=by kernel_rfl
theorem jft:qxg 14 X Y Z n m1 n2 m2 n3 m3 o o2 o3 z=qyg 14 X Y Z n n2 n3 m3 o o2 o3:=by kernel_rfl
theorem encP1:qkh 1 X Y Z n m1 n2 m2 n3 m3 l o o2 o3 z=qlh 1 X Y Z n n2 n3 m3 l o o2 o3:=by kernel_rfl
theorem encP2:qkh 2 X Y Z n m1 n2 m2 n3 m3 l o o2 o3 z=qlh 2 X Y Z n n2 n3 m3 l o o2 o3:=by kernel_rfl
theorem encP3:qkh 3 X Y Z n m1 n2 m2 n3 m3 l o o2 o3 z=qlh 3 X Y Z n n2 n3 m3 l o o2 o3:=by kernel_rfl
theorem encP4:qkh 4 X Y Z n m1 n2 m2 n3 m3 l o o2 o3 z=qlh 4 X Y Z n n2 n3 m3 l o o2 o3:=by kernel_rfl
theorem encP5:qkh 5 X Y Z n m1 n2 m2 n3 m3 l o o2 o3 z=qlh 5 X Y Z n n2 n3 m3 l o o2 o3:=by kernel_rfl
theorem encP6:qkh 6 X Y Z n m1 n2 m2 n3 m3 l o o2 o3 z=qlh 6 X Y Z n n2 n3 m3 l o o2 o3:=by kernel_rfl
theorem encP7:qkh 7 X Y Z n m1 n2 m2 n3 m3 l o o2 o3 z=qlh 7 X Y Z n n2 n3 m3 l o o2 o3:=by kernel_rfl
theorem encP8:qkh 8 X Y Z n m1 n2 m2 n3 m3 l o o2 o3 z=qlh 8 X Y Z n n2 n3 m3 l o o2 o3:=by kernel_rfl
theorem encP9:qkh 9 X Y Z n m1 n2 m2 n3 m3 l o o2 o3 z=qlh 9 X Y Z n n2 n3 m3 l o o2 o3:=by kernel_rfl
theorem jgt:qkh 10 X Y Z n m1 n2 m2 n3 m3 l o o2 o3 z=qlh 10 X Y Z n n2 n3 m3 l o o2 o3:=by kernel_rfl
theorem jht:qkh 11 X Y Z n m1 n2 m2 n3 m3 l o o2 o3 z=qlh 11 X Y Z n n2 n3 m3 l o o2 o3:=by kernel_rfl
theorem jit:qkh 12 X Y Z n m1 n2 m2 n3 m3 l o o2 o3 z=qlh 12 X Y Z n n2 n3 m3 l o o2 o3:=by kernel_rfl
theorem jjt:qkh 13 X Y Z n m1 n2 m2 n3 m3 l o o2 o3 z=qlh 13 X Y Z n n2 n3 m3 l o o2 o3:=by kernel_rfl
end
end
end Go.Proofs.YtcpafideogckmaaGreatDoor.Aes
