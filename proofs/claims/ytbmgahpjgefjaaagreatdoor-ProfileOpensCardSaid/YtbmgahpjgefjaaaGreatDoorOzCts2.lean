/-
  Chained blocks, second part: the chain of blocks on lists; what a run of Encrypt comes to, for each number of blocks.
-/
import Derived.Test.YtbmgahpjgefjaaaGreatDoorPo7
namespace Go.Proofs.YtbmgahpjgefjaaaGreatDoor.Aes
open Go.Sim
open Go.Proofs
variable {α:Type}
abbrev Blk:=List (BitVec 8)
noncomputable def chainL (ks:Nat→BitVec 8) (bs:List Blk):Blk→List Blk:=List.rec (motive:=fun _=>Blk→List Blk) (fun _=>[]) (fun b _ ih prev=>encL ks (addL prev b)::ih (encL ks (addL prev b))) bs
noncomputable def swL (l:List Blk):List Blk:=List.rec (motive:=fun _=>List Blk) [] (fun a r ih=>List.rec (motive:=fun _=>List Blk) [a] (fun b r' _=>List.rec (motive:=fun _=>List Blk) [b,a] (fun _ _ _=>a::ih) r') r) l
noncomputable def q1m (l:List Blk):Blk:=List.rec (motive:=fun _=>Blk) [] (fun a _ ih=>app a ih) l
noncomputable def q4c (Z:Nat→BitVec 8) (o:Nat) (n:Nat):List Blk:=mapN (fun i=>qha Z (o+16 * i)) (q5a n 0)
noncomputable def qpf:Cfg:=qie (qbb [(47,qmr),(122,jzk),(140,j1k),(143,qjr encL),(121,qjr decL),(145,mnzS)])
theorem qt5:CfgOK qpf:=q8b (allC qks (allC j9r (allC jcs (allC jrc (allC jsc (all1 mnzOK))))))
noncomputable def qwh (X Y:Nat→BitVec 8) (o n o2 n2:Nat) (r:List Prop):List Prop:=IsB (qda X)::(o+16≤n)::IsB (qda Y)::(o2+16≤n2)::r
noncomputable def qr2 (Z:Nat→BitVec 8) (o3 n3 m3:Nat) (i:Nat) (r:List Prop):List Prop:=(16 * i+16≤m3)::IsB (qda Z)::(16≤16∧o3+16 * i+16≤n3)::(16≤16)::(16≤16)::r
noncomputable def j0c (Z:Nat→BitVec 8) (l o3 n3 m3:Nat) (i:Nat) (r:List Prop):List Prop:=(decide (((16 * i:Nat):Int)<(l:Int))=true)::(decide ((l:Int)<((16 * i+16:Nat):Int))=false)::qr2 Z o3 n3 m3 i r
noncomputable def qco (f:Nat→List Prop→List Prop) (m:Nat):Nat→List Prop→List Prop:=Nat.rec (motive:=fun _=>Nat→List Prop→List Prop) (fun _ r=>r) (fun _ ih i r=>f i (ih (Nat.succ i) r)) m
def padN (l k:Nat):Nat:=(16 - ((l - k:Nat):Int)).toNat
noncomputable def qop (Z:Nat→BitVec 8) (l o3 k:Nat):Nat→BitVec 8:=catB (fun i=>Z (o3+k+i)) (l - k) fun i=>((qxc (padN l k)).data.getD i 0).toBitVec
noncomputable def cutC (Z:Nat→BitVec 8) (l o3 n3 m3 k:Nat) (r:List Prop):List Prop :=
  (decide ((k:Int)<(l:Int))=true)::(decide ((l:Int)<((k+16:Nat):Int))=true)::(0≤(l:Int)∧(l:Int)≤(m3:Int))::(0≤(l:Int)∧(l:Int)≤(l:Int))::(k≤l)::(decide (l=k)=false)::(decide (((l - k:Nat):Int)<16)=true)
  :: qza (16 - ((l - k:Nat):Int))::(0≤16 - ((l - k:Nat):Int)∧q3e (l - k+padN l k) 1)::(o3+k+(l - k)≤n3∧IsB (qda Z))::(l - k<l - k+(qxc (padN l k)).size∧q3e (l - k+(qxc (padN l k)).size) 1∧1=1)::r
noncomputable def j2k (Z:Nat→BitVec 8) (l o3 n3 m3 k:Nat) (r:List Prop):List Prop :=
  cutC Z l o3 n3 m3 k (((((l - k+(qxc (padN l k)).size:Nat):Int) != 16)=false)::(decide (l - k+(qxc (padN l k)).size=16)=true)::IsB (qda (qop Z l o3 k))::(16≤16∧16≤l - k+(qxc (padN l k)).size)::(16≤16)::(16≤16)::(decide (((k+16:Nat):Int)<(l:Int))=false)::r)
noncomputable def encJ (X Y:Nat→BitVec 8) (o o2:Nat) (bs:List Blk):Blk:=q1m (swL (chainL (qaa (q5e (qha X o))) bs (qha Y o2)))
noncomputable def qpp (m1 m2 m3 o o2 o3:Nat) (l:SN):List SV:=[.slice ⟨0,.sym o⟩ (.lit 16) (.sym m1),.slice ⟨1,.sym o2⟩ (.lit 16) (.sym m2),.slice ⟨2,.sym o3⟩ l (.sym m3)]
noncomputable def qqp (X Y Z:Nat→BitVec 8) (n n2 n3:Nat):List SO:=[rowF X n,rowF Y n2,rowF Z n3]
noncomputable def qpg (nm:Nat) (l:SN):SV:=.tuple [.slice ⟨nm,.lit 0⟩ l (.rest nm 0),.int .i64 (.lit (.ofNat 0))]
noncomputable def qqg (m:Nat) (X Y Z:Nat→BitVec 8) (n m1 n2 m2 n3 m3 o o2 o3:Nat) (z:Nat→Nat→Nat):List Prop × Option (SV × List (Option SO)) :=
  outZ [Nat.add 21 (Nat.mul 6 m)] (qca qpf 20000 97 (qpp m1 m2 m3 o o2 o3 (.lit (Nat.mul 16 m))) (qqp X Y Z n n2 n3)) [] z
noncomputable def j3k (m:Nat) (X Y Z:Nat→BitVec 8) (n n2 n3 m3 o o2 o3:Nat):List Prop:=qwh X Y o n o2 n2 (qwh X Y o n o2 n2 (qco (qr2 Z o3 n3 m3) m 0 [16 * m≤16 * m]))
noncomputable def qrg (m:Nat) (X Y Z:Nat→BitVec 8) (n n2 n3 m3 o o2 o3:Nat):List Prop × Option (SV × List (Option SO)) :=
  (j3k m X Y Z n n2 n3 m3 o o2 o3,some (qpg (21+6 * m) (.lit (Nat.mul 16 m)),[some (.own (.lst (bx (encJ X Y o o2 (q4c Z o3 m)))) false 5)]))
noncomputable def j4k (e:List Bool) (m:Nat):List Bool:=Nat.rec (motive:=fun _=>List Bool) e (fun _ ih=>true::false::ih) m
noncomputable def qdh (m:Nat) (X Y Z:Nat→BitVec 8) (n m1 n2 m2 n3 m3 l o o2 o3:Nat) (z:Nat→Nat→Nat):List Prop × Option (SV × List (Option SO)) :=
  outZ [Nat.add 28 (Nat.mul 6 m)] (qca qpf 20000 97 (qpp m1 m2 m3 o o2 o3 (.sym l)) (qqp X Y Z n n2 n3)) (false::false::j4k [true,true,false,true,false,true,false,false] m) z
noncomputable def j5k (m:Nat) (X Y Z:Nat→BitVec 8) (n n2 n3 m3 l o o2 o3:Nat):List Prop :=
  qwh X Y o n o2 n2 ((decide ((l:Int)<16)=false)::(decide ((l:Int) > 131072)=false)::qwh X Y o n o2 n2 (qco (j0c Z l o3 n3 m3) m 0 (j2k Z l o3 n3 m3 (16 * m) [0≤(l:Int)∧(l:Int)≤((16 * m+16:Nat):Int),decide (l=0)=false,0+l≤16 * m+16∧q3e l 1])))
noncomputable def qeh (m:Nat) (X Y Z:Nat→BitVec 8) (n n2 n3 m3 l o o2 o3:Nat):List Prop × Option (SV × List (Option SO)) :=
  (j5k m X Y Z n n2 n3 m3 l o o2 o3,some (qpg (28+6 * m) (.sym l),[some (.own (.fn (fun i=>qda (qaa (encJ X Y o o2 (app (q4c Z o3 m) [qha (qop Z l o3 (16 * m)) 0]))) (0+i)) l) false 5)]))
section
variable (X Y Z:Nat→BitVec 8) (n m1 n2 m2 n3 m3 l o o2 o3:Nat) (z:Nat→Nat→Nat)
theorem encF1:qqg 1 X Y Z n m1 n2 m2 n3 m3 o o2 o3 z=qrg 1 X Y Z n n2 n3 m3 o o2 o3:=by kernel_rfl
theorem encF2:qqg 2 X Y Z n m1 n2 m2 n3 m3 o o2 o3 z=qrg 2 X Y Z n n2 n3 m3 o o2 o3:=by kernel_rfl
theorem encF3:qqg 3 X Y Z n m1 n2 m2 n3 m3 o o2 o3 z=qrg 3 X Y Z n n2 n3 m3 o o2 o3:=by kernel_rfl
theorem encF4:qqg 4 X Y Z n m1 n2 m2 n3 m3 o o2 o3 z=qrg 4 X Y Z n n2 n3 m3 o o2 o3:=by kernel_rfl
theorem encF5:qqg 5 X Y Z n m1 n2 m2 n3 m3 o o2 o3 z=qrg 5 X Y Z n n2 n3 m3 o o2 o3:=by kernel_rfl
theorem encF6:qqg 6 X Y Z n m1 n2 m2 n3 m3 o o2 o3 z=qrg 6 X Y Z n n2 n3 m3 o o2 o3:=by kernel_rfl
theorem encF7:qqg 7 X Y Z n m1 n2 m2 n3 m3 o o2 o3 z=qrg 7 X Y Z n n2 n3 m3 o o2 o3:=by kernel_rfl
theorem encF8:qqg 8 X Y Z n m1 n2 m2 n3 m3 o o2 o3 z=qrg 8 X Y Z n n2 n3 m3 o o2 o3:=by kernel_rfl
theorem encF9:qqg 9 X Y Z n m1 n2 m2 n3 m3 o o2 o3 z=qrg 9 X Y Z n n2 n3 m3 o o2 o3:=by kernel_rfl
theorem jds:qqg 10 X Y Z n m1 n2 m2 n3 m3 o o2 o3 z=qrg 10 X Y Z n n2 n3 m3 o o2 o3:=by kernel_rfl
theorem jes:qqg 11 X Y Z n m1 n2 m2 n3 m3 o o2 o3 z=qrg 11 X Y Z n n2 n3 m3 o o2 o3:=by kernel_rfl
theorem jfs:qqg 12 X Y Z n m1 n2 m2 n3 m3 o o2 o3 z=qrg 12 X Y Z n n2 n3 m3 o o2 o3:=by kernel_rfl
theorem jgs:qqg 13 X Y Z n m1 n2 m2 n3 m3 o o2 o3 z=qrg 13 X Y Z n n2 n3 m3 o o2 o3:=by kernel_rfl
theorem jhs:qqg 14 X Y Z n m1 n2 m2 n3 m3 o o2 o3 z=qrg 14 X Y Z n n2 n3 m3 o o2 o3:=by kernel_rfl
theorem encP1:qdh 1 X Y Z n m1 n2 m2 n3 m3 l o o2 o3 z=qeh 1 X Y Z n n2 n3 m3 l o o2 o3:=by kernel_rfl
theorem encP2:qdh 2 X Y Z n m1 n2 m2 n3 m3 l o o2 o3 z=qeh 2 X Y Z n n2 n3 m3 l o o2 o3:=by kernel_rfl
theorem encP3:qdh 3 X Y Z n m1 n2 m2 n3 m3 l o o2 o3 z=qeh 3 X Y Z n n2 n3 m3 l o o2 o3:=by kernel_rfl
theorem encP4:qdh 4 X Y Z n m1 n2 m2 n3 m3 l o o2 o3 z=qeh 4 X Y Z n n2 n3 m3 l o o2 o3:=by kernel_rfl
theorem encP5:qdh 5 X Y Z n m1 n2 m2 n3 m3 l o o2 o3 z=qeh 5 X Y Z n n2 n3 m3 l o o2 o3:=by kernel_rfl
theorem encP6:qdh 6 X Y Z n m1 n2 m2 n3 m3 l o o2 o3 z=qeh 6 X Y Z n n2 n3 m3 l o o2 o3:=by kernel_rfl
theorem encP7:qdh 7 X Y Z n m1 n2 m2 n3 m3 l o o2 o3 z=qeh 7 X Y Z n n2 n3 m3 l o o2 o3:=by kernel_rfl
theorem encP8:qdh 8 X Y Z n m1 n2 m2 n3 m3 l o o2 o3 z=qeh 8 X Y Z n n2 n3 m3 l o o2 o3:=by kernel_rfl
theorem encP9:qdh 9 X Y Z n m1 n2 m2 n3 m3 l o o2 o3 z=qeh 9 X Y Z n n2 n3 m3 l o o2 o3:=by kernel_rfl
theorem jis:qdh 10 X Y Z n m1 n2 m2 n3 m3 l o o2 o3 z=qeh 10 X Y Z n n2 n3 m3 l o o2 o3:=by kernel_rfl
theorem jjs:qdh 11 X Y Z n m1 n2 m2 n3 m3 l o o2 o3 z=qeh 11 X Y Z n n2 n3 m3 l o o2 o3:=by kernel_rfl
theorem jks:qdh 12 X Y Z n m1 n2 m2 n3 m3 l o o2 o3 z=qeh 12 X Y Z n n2 n3 m3 l o o2 o3:=by kernel_rfl
theorem jls:qdh 13 X Y Z n m1 n2 m2 n3 m3 l o o2 o3 z=qeh 13 X Y Z n n2 n3 m3 l o o2 o3:=by kernel_rfl
end
end Go.Proofs.YtbmgahpjgefjaaaGreatDoor.Aes
