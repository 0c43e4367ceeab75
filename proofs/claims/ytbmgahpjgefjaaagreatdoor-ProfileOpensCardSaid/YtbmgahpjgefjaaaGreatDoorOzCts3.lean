/-
  Chained blocks, third part: what a run of Decrypt comes to, for each number of blocks.
-/
import Derived.Test.YtbmgahpjgefjaaaGreatDoorOzCts2
namespace Go.Proofs.YtbmgahpjgefjaaaGreatDoor.Aes
open Go.Sim
open Go.Proofs
variable {α:Type}
noncomputable def q1j (ks:Nat→BitVec 8) (bs:List Blk):Blk→List Blk:=List.rec (motive:=fun _=>Blk→List Blk) (fun _=>[]) (fun b _ ih prev=>addL (decL ks b) prev::ih b) bs
noncomputable def decJ (X Y:Nat→BitVec 8) (o o2:Nat) (bs:List Blk):Blk:=q1m (q1j (qaa (q5e (qha X o))) bs (qha Y o2))
noncomputable def qrp (Z:Nat→BitVec 8) (o3 n3 k:Nat) (r:List Prop):List Prop:=IsB (qda Z)::(o3+k+16≤n3)::r
noncomputable def qm8 (Z:Nat→BitVec 8) (o3 n3 k:Nat) (r:List Prop):List Prop:=IsB (qda Z)::(16≤16∧o3+k+16≤n3)::r
noncomputable def q8v (Z:Nat→BitVec 8) (o3 n3 k:Nat) (r:List Prop):List Prop:=qrp Z o3 n3 k ((16≤16∧16≤16)::r)
noncomputable def qls (Z:Nat→BitVec 8) (o3 n3 k k':Nat) (r:List Prop):List Prop:=qrp Z o3 n3 k' (qm8 Z o3 n3 k r)
noncomputable def runB (Z:Nat→BitVec 8) (o3 n3 n:Nat) (r:List Prop):List Prop:=Nat.rec (motive:=fun _=>List Prop) r (fun j _=>q8v Z o3 n3 0 (Nat.rec (motive:=fun _=>Nat→List Prop) (fun _=>r) (fun _ ih i=>qls Z o3 n3 (16 * i) (16 * Nat.succ i) (ih (Nat.succ i))) j 0)) n
noncomputable def j6k (m3 i:Nat) (r:List Prop):List Prop:=(16 * i+16≤m3)::r
noncomputable def roomP (m3 l i:Nat) (r:List Prop):List Prop:=(decide (((16 * i:Nat):Int)<(l:Int))=true)::(decide ((l:Int)<((16 * i+16:Nat):Int))=false)::(16 * i+16≤m3)::r
noncomputable def j7k (m:Nat) (X Y Z:Nat→BitVec 8) (n n2 n3 m3 o o2 o3:Nat):List Prop :=
  qwh X Y o n o2 n2 (qco (j6k m3) (m+2) 0 (qrp Z o3 n3 (16 * m) (runB Z o3 n3 m (Nat.rec (motive:=fun _=>List Prop→List Prop) (q8v Z o3 n3 16) (fun j _=>qls Z o3 n3 (16 * j) (16 * j+32)) m (qls Z o3 n3 (16 * m+16) (16 * m) [16 * m+32≤16 * m+32])))))
noncomputable def qfh (m:Nat) (X Y Z:Nat→BitVec 8) (n m1 n2 m2 n3 m3 o o2 o3:Nat) (z:Nat→Nat→Nat):List Prop × Option (SV × List (Option SO)) :=
  outZ [26+6 * m] (qca qpf 20000 98 (qpp m1 m2 m3 o o2 o3 (.lit (16 * m+32))) (qqp X Y Z n n2 n3)) [] z
noncomputable def qgh (m:Nat) (X Y Z:Nat→BitVec 8) (n n2 n3 m3 o o2 o3:Nat):List Prop × Option (SV × List (Option SO)) :=
  (j7k m X Y Z n n2 n3 m3 o o2 o3,some (qpg (26+6 * m) (.lit (16 * m+32)),[some (.own (.lst (bx (decJ X Y o o2 (swL (q4c Z o3 (m+2)))))) false 5)]))
noncomputable def dec1L (X Y Z:Nat→BitVec 8) (n m1 n2 m2 n3 m3 o o2 o3:Nat) (z:Nat→Nat→Nat):List Prop × Option (SV × List (Option SO)) :=
  outZ [18] (qca qpf 20000 98 (qpp m1 m2 m3 o o2 o3 (.lit 16)) (qqp X Y Z n n2 n3)) [] z
noncomputable def dec1P (X Y Z:Nat→BitVec 8) (n n2 n3 m3 o o2 o3:Nat):List Prop:=qwh X Y o n o2 n2 (j6k m3 0 (q8v Z o3 n3 0 [16≤16]))
noncomputable def dec1R (X Y Z:Nat→BitVec 8) (n n2 n3 m3 o o2 o3:Nat):List Prop × Option (SV × List (Option SO)) :=
  (dec1P X Y Z n n2 n3 m3 o o2 o3,some (qpg 18 (.lit 16),[some (.own (.lst (bx (decJ X Y o o2 (q4c Z o3 1)))) false 5)]))
noncomputable def qod (l k:Nat):Nat:=((l:Int) - ((k:Nat):Int)).toNat
noncomputable def q2j (ks:Nat→BitVec 8) (Z:Nat→BitVec 8) (l o3 k:Nat):Nat→BitVec 8:=catB (fun i=>qop Z l o3 (k+16) (0+i)) (qod l (k+16)) fun i=>qaa (decL ks (qha Z (o3+k))) (0+qod l (k+16) * 1+i)
noncomputable def bndC (l k u:Nat):Prop:=0≤(l:Int) - (k:Int)∧(l:Int) - (k:Int)≤(u:Int)
noncomputable def j8k (m:Nat) (X Y Z:Nat→BitVec 8) (n n2 n3 m3 l o o2 o3:Nat):List Prop :=
  qwh X Y o n o2 n2 ((decide ((l:Int)<16)=false)::(decide ((l:Int) > 131072)=false)::qco (roomP m3 l) (m+1) 0 (cutC Z l o3 n3 m3 (16 * m+16) ((decide (((16 * m+32:Nat):Int)<(l:Int))=false)::qza ((l:Int) - ((16 * m+16:Nat):Int))::qrp Z o3 n3 (16 * m)
    (bndC l (16 * m+16) (l - (16 * m+16)+(qxc (padN l (16 * m+16))).size)::bndC l (16 * m+16) (qod l (16 * m+16))::bndC l (16 * m+16) 16::(0+qod l (16 * m+16) * 1+(16 - qod l (16 * m+16))≤16)
      :: (0+qod l (16 * m+16)≤l - (16 * m+16)+(qxc (padN l (16 * m+16))).size∧IsB (qda (qop Z l o3 (16 * m+16))))::(qod l (16 * m+16)<qod l (16 * m+16)+(16 - qod l (16 * m+16))∧q3e (qod l (16 * m+16)+(16 - qod l (16 * m+16))) 1∧1=1)
      :: runB Z o3 n3 m ((decide (qod l (16 * m+16)+(16 - qod l (16 * m+16))=16)=true)::IsB (qda (q2j (qaa (q5e (qha X o))) Z l o3 (16 * m)))::(0+16≤qod l (16 * m+16)+(16 - qod l (16 * m+16)))
        :: Nat.rec (motive:=fun _=>List Prop→List Prop) (fun r=>(16≤16∧16≤16)::r) (fun j _=>qm8 Z o3 n3 (16 * j)) m (qrp Z o3 n3 (16 * m) ((decide (qod l (16 * m+16)+(16 - qod l (16 * m+16))=16)=true)::IsB (qda (q2j (qaa (q5e (qha X o))) Z l o3 (16 * m)))
          :: (16≤16∧0+16≤qod l (16 * m+16)+(16 - qod l (16 * m+16)))::(0≤(l:Int)∧(l:Int)≤((16 * m+32:Nat):Int))::(decide (l=0)=false)::[0+l≤16 * m+32∧q3e l 1])))))))
noncomputable def qhh (m:Nat) (X Y Z:Nat→BitVec 8) (n m1 n2 m2 n3 m3 l o o2 o3:Nat) (z:Nat→Nat→Nat):List Prop × Option (SV × List (Option SO)) :=
  outZ [28+6 * m] (qca qpf 20000 98 (qpp m1 m2 m3 o o2 o3 (.sym l)) (qqp X Y Z n n2 n3)) (false::false::j4k [true,true,false,true,false,true,true,false] (m+1)) z
noncomputable def qih (m:Nat) (X Y Z:Nat→BitVec 8) (n n2 n3 m3 l o o2 o3:Nat):List Prop × Option (SV × List (Option SO)) :=
  (j8k m X Y Z n n2 n3 m3 l o o2 o3,some (qpg (28+6 * m) (.sym l),[some (.own (.fn (fun i=>qda (qaa (decJ X Y o o2 (app (q4c Z o3 m) [qha (q2j (qaa (q5e (qha X o))) Z l o3 (16 * m)) 0,qha Z (o3+16 * m)]))) (0+i)) l) false 5)]))
section
variable (X Y Z:Nat→BitVec 8) (n m1 n2 m2 n3 m3 l o o2 o3:Nat) (z:Nat→Nat→Nat)
theorem dec1:dec1L X Y Z n m1 n2 m2 n3 m3 o o2 o3 z=dec1R X Y Z n n2 n3 m3 o o2 o3:=by kernel_rfl
theorem decF0:qfh 0 X Y Z n m1 n2 m2 n3 m3 o o2 o3 z=qgh 0 X Y Z n n2 n3 m3 o o2 o3:=by kernel_rfl
theorem decF1:qfh 1 X Y Z n m1 n2 m2 n3 m3 o o2 o3 z=qgh 1 X Y Z n n2 n3 m3 o o2 o3:=by kernel_rfl
theorem decF2:qfh 2 X Y Z n m1 n2 m2 n3 m3 o o2 o3 z=qgh 2 X Y Z n n2 n3 m3 o o2 o3:=by kernel_rfl
theorem decF3:qfh 3 X Y Z n m1 n2 m2 n3 m3 o o2 o3 z=qgh 3 X Y Z n n2 n3 m3 o o2 o3:=by kernel_rfl
theorem decF4:qfh 4 X Y Z n m1 n2 m2 n3 m3 o o2 o3 z=qgh 4 X Y Z n n2 n3 m3 o o2 o3:=by kernel_rfl
theorem decF5:qfh 5 X Y Z n m1 n2 m2 n3 m3 o o2 o3 z=qgh 5 X Y Z n n2 n3 m3 o o2 o3:=by kernel_rfl
theorem decF6:qfh 6 X Y Z n m1 n2 m2 n3 m3 o o2 o3 z=qgh 6 X Y Z n n2 n3 m3 o o2 o3:=by kernel_rfl
theorem decF7:qfh 7 X Y Z n m1 n2 m2 n3 m3 o o2 o3 z=qgh 7 X Y Z n n2 n3 m3 o o2 o3:=by kernel_rfl
theorem decF8:qfh 8 X Y Z n m1 n2 m2 n3 m3 o o2 o3 z=qgh 8 X Y Z n n2 n3 m3 o o2 o3:=by kernel_rfl
theorem decF9:qfh 9 X Y Z n m1 n2 m2 n3 m3 o o2 o3 z=qgh 9 X Y Z n n2 n3 m3 o o2 o3:=by kernel_rfl
theorem jms:qfh 10 X Y Z n m1 n2 m2 n3 m3 o o2 o3 z=qgh 10 X Y Z n n2 n3 m3 o o2 o3:=by kernel_rfl
theorem jns:qfh 11 X Y Z n m1 n2 m2 n3 m3 o o2 o3 z=qgh 11 X Y Z n n2 n3 m3 o o2 o3:=by kernel_rfl
theorem jos:qfh 12 X Y Z n m1 n2 m2 n3 m3 o o2 o3 z=qgh 12 X Y Z n n2 n3 m3 o o2 o3:=by kernel_rfl
theorem decP0:qhh 0 X Y Z n m1 n2 m2 n3 m3 l o o2 o3 z=qih 0 X Y Z n n2 n3 m3 l o o2 o3:=by kernel_rfl
theorem decP1:qhh 1 X Y Z n m1 n2 m2 n3 m3 l o o2 o3 z=qih 1 X Y Z n n2 n3 m3 l o o2 o3:=by kernel_rfl
theorem decP2:qhh 2 X Y Z n m1 n2 m2 n3 m3 l o o2 o3 z=qih 2 X Y Z n n2 n3 m3 l o o2 o3:=by kernel_rfl
theorem decP3:qhh 3 X Y Z n m1 n2 m2 n3 m3 l o o2 o3 z=qih 3 X Y Z n n2 n3 m3 l o o2 o3:=by kernel_rfl
theorem decP4:qhh 4 X Y Z n m1 n2 m2 n3 m3 l o o2 o3 z=qih 4 X Y Z n n2 n3 m3 l o o2 o3:=by kernel_rfl
theorem decP5:qhh 5 X Y Z n m1 n2 m2 n3 m3 l o o2 o3 z=qih 5 X Y Z n n2 n3 m3 l o o2 o3:=by kernel_rfl
theorem decP6:qhh 6 X Y Z n m1 n2 m2 n3 m3 l o o2 o3 z=qih 6 X Y Z n n2 n3 m3 l o o2 o3:=by kernel_rfl
theorem decP7:qhh 7 X Y Z n m1 n2 m2 n3 m3 l o o2 o3 z=qih 7 X Y Z n n2 n3 m3 l o o2 o3:=by kernel_rfl
theorem decP8:qhh 8 X Y Z n m1 n2 m2 n3 m3 l o o2 o3 z=qih 8 X Y Z n n2 n3 m3 l o o2 o3:=by kernel_rfl
theorem decP9:qhh 9 X Y Z n m1 n2 m2 n3 m3 l o o2 o3 z=qih 9 X Y Z n n2 n3 m3 l o o2 o3:=by kernel_rfl
theorem jps:qhh 10 X Y Z n m1 n2 m2 n3 m3 l o o2 o3 z=qih 10 X Y Z n n2 n3 m3 l o o2 o3:=by kernel_rfl
theorem jqs:qhh 11 X Y Z n m1 n2 m2 n3 m3 l o o2 o3 z=qih 11 X Y Z n n2 n3 m3 l o o2 o3:=by kernel_rfl
theorem jrs:qhh 12 X Y Z n m1 n2 m2 n3 m3 l o o2 o3 z=qih 12 X Y Z n n2 n3 m3 l o o2 o3:=by kernel_rfl
end
end Go.Proofs.YtbmgahpjgefjaaaGreatDoor.Aes
