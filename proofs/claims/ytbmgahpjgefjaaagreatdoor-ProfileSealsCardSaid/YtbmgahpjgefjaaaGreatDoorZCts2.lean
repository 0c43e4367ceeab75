/-
  Chained blocks, second part: the chain of blocks on lists; what a run of Encrypt comes to, for each number of blocks.
-/
import Derived.Test.YtbmgahpjgefjaaaGreatDoorPk7
namespace Go.Proofs.YtbmgahpjgefjaaaGreatDoor.Aes
open Go.Sim
open Go.Proofs
variable {α:Type}
abbrev Blk:=List (BitVec 8)
noncomputable def chainL (ks:Nat→BitVec 8) (bs:List Blk):Blk→List Blk:=List.rec (motive:=fun _=>Blk→List Blk) (fun _=>[]) (fun b _ ih prev=>encL ks (addL prev b)::ih (encL ks (addL prev b))) bs
noncomputable def swL (l:List Blk):List Blk:=List.rec (motive:=fun _=>List Blk) [] (fun a r ih=>List.rec (motive:=fun _=>List Blk) [a] (fun b r' _=>List.rec (motive:=fun _=>List Blk) [b,a] (fun _ _ _=>a::ih) r') r) l
noncomputable def q5m (l:List Blk):Blk:=List.rec (motive:=fun _=>Blk) [] (fun a _ ih=>app a ih) l
noncomputable def q3c (Z:Nat→BitVec 8) (o:Nat) (n:Nat):List Blk:=mapN (fun i=>qha Z (o+16 * i)) (qka n 0)
noncomputable def qhf:Cfg:=qae (qcb [(47,qur),(122,j4j),(140,j6j),(143,qqr encL),(121,qqr decL),(145,mnzS)])
theorem qv5:CfgOK qhf:=q7b (allC qxs (allC jgr (allC jjr (allC jdc (allC jec (all1 mnzOK))))))
noncomputable def qvh (X Y:Nat→BitVec 8) (o n o2 n2:Nat) (r:List Prop):List Prop:=IsB (qea X)::(o+16≤n)::IsB (qea Y)::(o2+16≤n2)::r
noncomputable def qx2 (Z:Nat→BitVec 8) (o3 n3 m3:Nat) (i:Nat) (r:List Prop):List Prop:=(16 * i+16≤m3)::IsB (qea Z)::(16≤16∧o3+16 * i+16≤n3)::(16≤16)::(16≤16)::r
noncomputable def jlc (Z:Nat→BitVec 8) (l o3 n3 m3:Nat) (i:Nat) (r:List Prop):List Prop:=(decide (((16 * i:Nat):Int)<(l:Int))=true)::(decide ((l:Int)<((16 * i+16:Nat):Int))=false)::qx2 Z o3 n3 m3 i r
noncomputable def qeo (f:Nat→List Prop→List Prop) (m:Nat):Nat→List Prop→List Prop:=Nat.rec (motive:=fun _=>Nat→List Prop→List Prop) (fun _ r=>r) (fun _ ih i r=>f i (ih (Nat.succ i) r)) m
def padN (l k:Nat):Nat:=(16 - ((l - k:Nat):Int)).toNat
noncomputable def qpp (Z:Nat→BitVec 8) (l o3 k:Nat):Nat→BitVec 8:=catB (fun i=>Z (o3+k+i)) (l - k) fun i=>((qxc (padN l k)).data.getD i 0).toBitVec
noncomputable def cutC (Z:Nat→BitVec 8) (l o3 n3 m3 k:Nat) (r:List Prop):List Prop :=
  (decide ((k:Int)<(l:Int))=true)::(decide ((l:Int)<((k+16:Nat):Int))=true)::(0≤(l:Int)∧(l:Int)≤(m3:Int))::(0≤(l:Int)∧(l:Int)≤(l:Int))::(k≤l)::(decide (l=k)=false)::(decide (((l - k:Nat):Int)<16)=true)
  :: q4a (16 - ((l - k:Nat):Int))::(0≤16 - ((l - k:Nat):Int)∧qte (l - k+padN l k) 1)::(o3+k+(l - k)≤n3∧IsB (qea Z))::(l - k<l - k+(qxc (padN l k)).size∧qte (l - k+(qxc (padN l k)).size) 1∧1=1)::r
noncomputable def j7j (Z:Nat→BitVec 8) (l o3 n3 m3 k:Nat) (r:List Prop):List Prop :=
  cutC Z l o3 n3 m3 k (((((l - k+(qxc (padN l k)).size:Nat):Int) != 16)=false)::(decide (l - k+(qxc (padN l k)).size=16)=true)::IsB (qea (qpp Z l o3 k))::(16≤16∧16≤l - k+(qxc (padN l k)).size)::(16≤16)::(16≤16)::(decide (((k+16:Nat):Int)<(l:Int))=false)::r)
noncomputable def encJ (X Y:Nat→BitVec 8) (o o2:Nat) (bs:List Blk):Blk:=q5m (swL (chainL (qaa (qve (qha X o))) bs (qha Y o2)))
noncomputable def qqp (m1 m2 m3 o o2 o3:Nat) (l:SN):List SV:=[.slice ⟨0,.sym o⟩ (.lit 16) (.sym m1),.slice ⟨1,.sym o2⟩ (.lit 16) (.sym m2),.slice ⟨2,.sym o3⟩ l (.sym m3)]
noncomputable def qrp (X Y Z:Nat→BitVec 8) (n n2 n3:Nat):List SO:=[rowF X n,rowF Y n2,rowF Z n3]
noncomputable def qkg (nm:Nat) (l:SN):SV:=.tuple [.slice ⟨nm,.lit 0⟩ l (.rest nm 0),.int .i64 (.lit (.ofNat 0))]
noncomputable def qlg (m:Nat) (X Y Z:Nat→BitVec 8) (n m1 n2 m2 n3 m3 o o2 o3:Nat) (z:Nat→Nat→Nat):List Prop × Option (SV × List (Option SO)) :=
  outZ [Nat.add 21 (Nat.mul 6 m)] (qba qhf 20000 97 (qqp m1 m2 m3 o o2 o3 (.lit (Nat.mul 16 m))) (qrp X Y Z n n2 n3)) [] z
noncomputable def j8j (m:Nat) (X Y Z:Nat→BitVec 8) (n n2 n3 m3 o o2 o3:Nat):List Prop:=qvh X Y o n o2 n2 (qvh X Y o n o2 n2 (qeo (qx2 Z o3 n3 m3) m 0 [16 * m≤16 * m]))
noncomputable def qmg (m:Nat) (X Y Z:Nat→BitVec 8) (n n2 n3 m3 o o2 o3:Nat):List Prop × Option (SV × List (Option SO)) :=
  (j8j m X Y Z n n2 n3 m3 o o2 o3,some (qkg (21+6 * m) (.lit (Nat.mul 16 m)),[some (.own (.lst (bx (encJ X Y o o2 (q3c Z o3 m)))) false 5)]))
noncomputable def j9j (e:List Bool) (m:Nat):List Bool:=Nat.rec (motive:=fun _=>List Bool) e (fun _ ih=>true::false::ih) m
noncomputable def qch (m:Nat) (X Y Z:Nat→BitVec 8) (n m1 n2 m2 n3 m3 l o o2 o3:Nat) (z:Nat→Nat→Nat):List Prop × Option (SV × List (Option SO)) :=
  outZ [Nat.add 28 (Nat.mul 6 m)] (qba qhf 20000 97 (qqp m1 m2 m3 o o2 o3 (.sym l)) (qrp X Y Z n n2 n3)) (false::false::j9j [true,true,false,true,false,true,false,false] m) z
noncomputable def jak (m:Nat) (X Y Z:Nat→BitVec 8) (n n2 n3 m3 l o o2 o3:Nat):List Prop :=
  qvh X Y o n o2 n2 ((decide ((l:Int)<16)=false)::(decide ((l:Int) > 131072)=false)::qvh X Y o n o2 n2 (qeo (jlc Z l o3 n3 m3) m 0 (j7j Z l o3 n3 m3 (16 * m) [0≤(l:Int)∧(l:Int)≤((16 * m+16:Nat):Int),decide (l=0)=false,0+l≤16 * m+16∧qte l 1])))
noncomputable def qdh (m:Nat) (X Y Z:Nat→BitVec 8) (n n2 n3 m3 l o o2 o3:Nat):List Prop × Option (SV × List (Option SO)) :=
  (jak m X Y Z n n2 n3 m3 l o o2 o3,some (qkg (28+6 * m) (.sym l),[some (.own (.fn (fun i=>qea (qaa (encJ X Y o o2 (app (q3c Z o3 m) [qha (qpp Z l o3 (16 * m)) 0]))) (0+i)) l) false 5)]))
section
variable (X Y Z:Nat→BitVec 8) (n m1 n2 m2 n3 m3 l o o2 o3:Nat) (z:Nat→Nat→Nat)
theorem encF1:qlg 1 X Y Z n m1 n2 m2 n3 m3 o o2 o3 z=qmg 1 X Y Z n n2 n3 m3 o o2 o3:=by kernel_rfl
theorem encF2:qlg 2 X Y Z n m1 n2 m2 n3 m3 o o2 o3 z=qmg 2 X Y Z n n2 n3 m3 o o2 o3:=by kernel_rfl
theorem encF3:qlg 3 X Y Z n m1 n2 m2 n3 m3 o o2 o3 z=qmg 3 X Y Z n n2 n3 m3 o o2 o3:=by kernel_rfl
theorem encF4:qlg 4 X Y Z n m1 n2 m2 n3 m3 o o2 o3 z=qmg 4 X Y Z n n2 n3 m3 o o2 o3:=by kernel_rfl
theorem encF5:qlg 5 X Y Z n m1 n2 m2 n3 m3 o o2 o3 z=qmg 5 X Y Z n n2 n3 m3 o o2 o3:=by kernel_rfl
theorem encF6:qlg 6 X Y Z n m1 n2 m2 n3 m3 o o2 o3 z=qmg 6 X Y Z n n2 n3 m3 o o2 o3:=by kernel_rfl
theorem encF7:qlg 7 X Y Z n m1 n2 m2 n3 m3 o o2 o3 z=qmg 7 X Y Z n n2 n3 m3 o o2 o3:=by kernel_rfl
theorem encF8:qlg 8 X Y Z n m1 n2 m2 n3 m3 o o2 o3 z=qmg 8 X Y Z n n2 n3 m3 o o2 o3:=by kernel_rfl
theorem encF9:qlg 9 X Y Z n m1 n2 m2 n3 m3 o o2 o3 z=qmg 9 X Y Z n n2 n3 m3 o o2 o3:=by kernel_rfl
theorem jkr:qlg 10 X Y Z n m1 n2 m2 n3 m3 o o2 o3 z=qmg 10 X Y Z n n2 n3 m3 o o2 o3:=by kernel_rfl
theorem jlr:qlg 11 X Y Z n m1 n2 m2 n3 m3 o o2 o3 z=qmg 11 X Y Z n n2 n3 m3 o o2 o3:=by kernel_rfl
theorem jmr:qlg 12 X Y Z n m1 n2 m2 n3 m3 o o2 o3 z=qmg 12 X Y Z n n2 n3 m3 o o2 o3:=by kernel_rfl
theorem jnr:qlg 13 X Y Z n m1 n2 m2 n3 m3 o o2 o3 z=qmg 13 X Y Z n n2 n3 m3 o o2 o3:=by kernel_rfl
theorem jor:qlg 14 X Y Z n m1 n2 m2 n3 m3 o o2 o3 z=qmg 14 X Y Z n n2 n3 m3 o o2 o3:=by kernel_rfl
theorem encP1:qch 1 X Y Z n m1 n2 m2 n3 m3 l o o2 o3 z=qdh 1 X Y Z n n2 n3 m3 l o o2 o3:=by kernel_rfl
theorem encP2:qch 2 X Y Z n m1 n2 m2 n3 m3 l o o2 o3 z=qdh 2 X Y Z n n2 n3 m3 l o o2 o3:=by kernel_rfl
theorem encP3:qch 3 X Y Z n m1 n2 m2 n3 m3 l o o2 o3 z=qdh 3 X Y Z n n2 n3 m3 l o o2 o3:=by kernel_rfl
theorem encP4:qch 4 X Y Z n m1 n2 m2 n3 m3 l o o2 o3 z=qdh 4 X Y Z n n2 n3 m3 l o o2 o3:=by kernel_rfl
theorem encP5:qch 5 X Y Z n m1 n2 m2 n3 m3 l o o2 o3 z=qdh 5 X Y Z n n2 n3 m3 l o o2 o3:=by kernel_rfl
theorem encP6:qch 6 X Y Z n m1 n2 m2 n3 m3 l o o2 o3 z=qdh 6 X Y Z n n2 n3 m3 l o o2 o3:=by kernel_rfl
theorem encP7:qch 7 X Y Z n m1 n2 m2 n3 m3 l o o2 o3 z=qdh 7 X Y Z n n2 n3 m3 l o o2 o3:=by kernel_rfl
theorem encP8:qch 8 X Y Z n m1 n2 m2 n3 m3 l o o2 o3 z=qdh 8 X Y Z n n2 n3 m3 l o o2 o3:=by kernel_rfl
theorem encP9:qch 9 X Y Z n m1 n2 m2 n3 m3 l o o2 o3 z=qdh 9 X Y Z n n2 n3 m3 l o o2 o3:=by kernel_rfl
theorem jpr:qch 10 X Y Z n m1 n2 m2 n3 m3 l o o2 o3 z=qdh 10 X Y Z n n2 n3 m3 l o o2 o3:=by kernel_rfl
theorem jqr:qch 11 X Y Z n m1 n2 m2 n3 m3 l o o2 o3 z=qdh 11 X Y Z n n2 n3 m3 l o o2 o3:=by kernel_rfl
theorem jrr:qch 12 X Y Z n m1 n2 m2 n3 m3 l o o2 o3 z=qdh 12 X Y Z n n2 n3 m3 l o o2 o3:=by kernel_rfl
theorem jsr:qch 13 X Y Z n m1 n2 m2 n3 m3 l o o2 o3 z=qdh 13 X Y Z n n2 n3 m3 l o o2 o3:=by kernel_rfl
end
end Go.Proofs.YtbmgahpjgefjaaaGreatDoor.Aes
