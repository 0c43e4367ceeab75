/-
  Chained blocks, third part: what a run of Decrypt comes to, for each number of blocks.
-/
import Derived.Test.YtbmgahpjgefjaaaGreatDoorZCts2
namespace Go.Proofs.YtbmgahpjgefjaaaGreatDoor.Aes
open Go.Sim
open Go.Proofs
variable {α:Type}
noncomputable def q9j (ks:Nat→BitVec 8) (bs:List Blk):Blk→List Blk:=List.rec (motive:=fun _=>Blk→List Blk) (fun _=>[]) (fun b _ ih prev=>addL (decL ks b) prev::ih b) bs
noncomputable def decJ (X Y:Nat→BitVec 8) (o o2:Nat) (bs:List Blk):Blk:=q5m (q9j (qaa (qve (qha X o))) bs (qha Y o2))
noncomputable def qsp (Z:Nat→BitVec 8) (o3 n3 k:Nat) (r:List Prop):List Prop:=IsB (qea Z)::(o3+k+16≤n3)::r
noncomputable def ql8 (Z:Nat→BitVec 8) (o3 n3 k:Nat) (r:List Prop):List Prop:=IsB (qea Z)::(16≤16∧o3+k+16≤n3)::r
noncomputable def qmw (Z:Nat→BitVec 8) (o3 n3 k:Nat) (r:List Prop):List Prop:=qsp Z o3 n3 k ((16≤16∧16≤16)::r)
noncomputable def qys (Z:Nat→BitVec 8) (o3 n3 k k':Nat) (r:List Prop):List Prop:=qsp Z o3 n3 k' (ql8 Z o3 n3 k r)
noncomputable def runB (Z:Nat→BitVec 8) (o3 n3 n:Nat) (r:List Prop):List Prop:=Nat.rec (motive:=fun _=>List Prop) r (fun j _=>qmw Z o3 n3 0 (Nat.rec (motive:=fun _=>Nat→List Prop) (fun _=>r) (fun _ ih i=>qys Z o3 n3 (16 * i) (16 * Nat.succ i) (ih (Nat.succ i))) j 0)) n
noncomputable def jbk (m3 i:Nat) (r:List Prop):List Prop:=(16 * i+16≤m3)::r
noncomputable def roomP (m3 l i:Nat) (r:List Prop):List Prop:=(decide (((16 * i:Nat):Int)<(l:Int))=true)::(decide ((l:Int)<((16 * i+16:Nat):Int))=false)::(16 * i+16≤m3)::r
noncomputable def jck (m:Nat) (X Y Z:Nat→BitVec 8) (n n2 n3 m3 o o2 o3:Nat):List Prop :=
  qvh X Y o n o2 n2 (qeo (jbk m3) (m+2) 0 (qsp Z o3 n3 (16 * m) (runB Z o3 n3 m (Nat.rec (motive:=fun _=>List Prop→List Prop) (qmw Z o3 n3 16) (fun j _=>qys Z o3 n3 (16 * j) (16 * j+32)) m (qys Z o3 n3 (16 * m+16) (16 * m) [16 * m+32≤16 * m+32])))))
noncomputable def qeh (m:Nat) (X Y Z:Nat→BitVec 8) (n m1 n2 m2 n3 m3 o o2 o3:Nat) (z:Nat→Nat→Nat):List Prop × Option (SV × List (Option SO)) :=
  outZ [26+6 * m] (qba qhf 20000 98 (qqp m1 m2 m3 o o2 o3 (.lit (16 * m+32))) (qrp X Y Z n n2 n3)) [] z
noncomputable def qfh (m:Nat) (X Y Z:Nat→BitVec 8) (n n2 n3 m3 o o2 o3:Nat):List Prop × Option (SV × List (Option SO)) :=
  (jck m X Y Z n n2 n3 m3 o o2 o3,some (qkg (26+6 * m) (.lit (16 * m+32)),[some (.own (.lst (bx (decJ X Y o o2 (swL (q3c Z o3 (m+2)))))) false 5)]))
noncomputable def dec1L (X Y Z:Nat→BitVec 8) (n m1 n2 m2 n3 m3 o o2 o3:Nat) (z:Nat→Nat→Nat):List Prop × Option (SV × List (Option SO)) :=
  outZ [18] (qba qhf 20000 98 (qqp m1 m2 m3 o o2 o3 (.lit 16)) (qrp X Y Z n n2 n3)) [] z
noncomputable def dec1P (X Y Z:Nat→BitVec 8) (n n2 n3 m3 o o2 o3:Nat):List Prop:=qvh X Y o n o2 n2 (jbk m3 0 (qmw Z o3 n3 0 [16≤16]))
noncomputable def dec1R (X Y Z:Nat→BitVec 8) (n n2 n3 m3 o o2 o3:Nat):List Prop × Option (SV × List (Option SO)) :=
  (dec1P X Y Z n n2 n3 m3 o o2 o3,some (qkg 18 (.lit 16),[some (.own (.lst (bx (decJ X Y o o2 (q3c Z o3 1)))) false 5)]))
noncomputable def qnd (l k:Nat):Nat:=((l:Int) - ((k:Nat):Int)).toNat
noncomputable def qak (ks:Nat→BitVec 8) (Z:Nat→BitVec 8) (l o3 k:Nat):Nat→BitVec 8:=catB (fun i=>qpp Z l o3 (k+16) (0+i)) (qnd l (k+16)) fun i=>qaa (decL ks (qha Z (o3+k))) (0+qnd l (k+16) * 1+i)
noncomputable def bndC (l k u:Nat):Prop:=0≤(l:Int) - (k:Int)∧(l:Int) - (k:Int)≤(u:Int)
noncomputable def jdk (m:Nat) (X Y Z:Nat→BitVec 8) (n n2 n3 m3 l o o2 o3:Nat):List Prop :=
  qvh X Y o n o2 n2 ((decide ((l:Int)<16)=false)::(decide ((l:Int) > 131072)=false)::qeo (roomP m3 l) (m+1) 0 (cutC Z l o3 n3 m3 (16 * m+16) ((decide (((16 * m+32:Nat):Int)<(l:Int))=false)::q4a ((l:Int) - ((16 * m+16:Nat):Int))::qsp Z o3 n3 (16 * m)
    (bndC l (16 * m+16) (l - (16 * m+16)+(qxc (padN l (16 * m+16))).size)::bndC l (16 * m+16) (qnd l (16 * m+16))::bndC l (16 * m+16) 16::(0+qnd l (16 * m+16) * 1+(16 - qnd l (16 * m+16))≤16)
      :: (0+qnd l (16 * m+16)≤l - (16 * m+16)+(qxc (padN l (16 * m+16))).size∧IsB (qea (qpp Z l o3 (16 * m+16))))::(qnd l (16 * m+16)<qnd l (16 * m+16)+(16 - qnd l (16 * m+16))∧qte (qnd l (16 * m+16)+(16 - qnd l (16 * m+16))) 1∧1=1)
      :: runB Z o3 n3 m ((decide (qnd l (16 * m+16)+(16 - qnd l (16 * m+16))=16)=true)::IsB (qea (qak (qaa (qve (qha X o))) Z l o3 (16 * m)))::(0+16≤qnd l (16 * m+16)+(16 - qnd l (16 * m+16)))
        :: Nat.rec (motive:=fun _=>List Prop→List Prop) (fun r=>(16≤16∧16≤16)::r) (fun j _=>ql8 Z o3 n3 (16 * j)) m (qsp Z o3 n3 (16 * m) ((decide (qnd l (16 * m+16)+(16 - qnd l (16 * m+16))=16)=true)::IsB (qea (qak (qaa (qve (qha X o))) Z l o3 (16 * m)))
          :: (16≤16∧0+16≤qnd l (16 * m+16)+(16 - qnd l (16 * m+16)))::(0≤(l:Int)∧(l:Int)≤((16 * m+32:Nat):Int))::(decide (l=0)=false)::[0+l≤16 * m+32∧qte l 1])))))))
noncomputable def qgh (m:Nat) (X Y Z:Nat→BitVec 8) (n m1 n2 m2 n3 m3 l o o2 o3:Nat) (z:Nat→Nat→Nat):List Prop × Option (SV × List (Option SO)) :=
  outZ [28+6 * m] (qba qhf 20000 98 (qqp m1 m2 m3 o o2 o3 (.sym l)) (qrp X Y Z n n2 n3)) (false::false::j9j [true,true,false,true,false,true,true,false] (m+1)) z
noncomputable def qhh (m:Nat) (X Y Z:Nat→BitVec 8) (n n2 n3 m3 l o o2 o3:Nat):List Prop × Option (SV × List (Option SO)) :=
  (jdk m X Y Z n n2 n3 m3 l o o2 o3,some (qkg (28+6 * m) (.sym l),[some (.own (.fn (fun i=>qea (qaa (decJ X Y o o2 (app (q3c Z o3 m) [qha (qak (qaa (qve (qha X o))) Z l o3 (16 * m)) 0,qha Z (o3+16 * m)]))) (0+i)) l) false 5)]))
section
variable (X Y Z:Nat→BitVec 8) (n m1 n2 m2 n3 m3 l o o2 o3:Nat) (z:Nat→Nat→Nat)
theorem dec1:dec1L X Y Z n m1 n2 m2 n3 m3 o o2 o3 z=dec1R X Y Z n n2 n3 m3 o o2 o3:=by kernel_rfl
theorem decF0:qeh 0 X Y Z n m1 n2 m2 n3 m3 o o2 o3 z=qfh 0 X Y Z n n2 n3 m3 o o2 o3:=by kernel_rfl
theorem decF1:qeh 1 X Y Z n m1 n2 m2 n3 m3 o o2 o3 z=qfh 1 X Y Z n n2 n3 m3 o o2 o3:=by kernel_rfl
theorem decF2:qeh 2 X Y Z n m1 n2 m2 n3 m3 o o2 o3 z=qfh 2 X Y Z n n2 n3 m3 o o2 o3:=by kernel_rfl
theorem decF3:qeh 3 X Y Z n m1 n2 m2 n3 m3 o o2 o3 z=qfh 3 X Y Z n n2 n3 m3 o o2 o3:=by kernel_rfl
theorem decF4:qeh 4 X Y Z n m1 n2 m2 n3 m3 o o2 o3 z=qfh 4 X Y Z n n2 n3 m3 o o2 o3:=by kernel_rfl
theorem decF5:qeh 5 X Y Z n m1 n2 m2 n3 m3 o o2 o3 z=qfh 5 X Y Z n n2 n3 m3 o o2 o3:=by kernel_rfl
theorem decF6:qeh 6 X Y Z n m1 n2 m2 n3 m3 o o2 o3 z=qfh 6 X Y Z n n2 n3 m3 o o2 o3:=by kernel_rfl
theorem decF7:qeh 7 X Y Z n m1 n2 m2 n3 m3 o o2 o3 z=qfh 7 X Y Z n n2 n3 m3 o o2 o3:=by kernel_rfl
theorem decF8:qeh 8 X Y Z n m1 n2 m2 n3 m3 o o2 o3 z=qfh 8 X Y Z n n2 n3 m3 o o2 o3:=by kernel_rfl
theorem decF9:qeh 9 X Y Z n m1 n2 m2 n3 m3 o o2 o3 z=qfh 9 X Y Z n n2 n3 m3 o o2 o3:=by kernel_rfl
theorem jtr:qeh 10 X Y Z n m1 n2 m2 n3 m3 o o2 o3 z=qfh 10 X Y Z n n2 n3 m3 o o2 o3:=by kernel_rfl
theorem jur:qeh 11 X Y Z n m1 n2 m2 n3 m3 o o2 o3 z=qfh 11 X Y Z n n2 n3 m3 o o2 o3:=by kernel_rfl
theorem jvr:qeh 12 X Y Z n m1 n2 m2 n3 m3 o o2 o3 z=qfh 12 X Y Z n n2 n3 m3 o o2 o3:=by kernel_rfl
theorem decP0:qgh 0 X Y Z n m1 n2 m2 n3 m3 l o o2 o3 z=qhh 0 X Y Z n n2 n3 m3 l o o2 o3:=by kernel_rfl
theorem decP1:qgh 1 X Y Z n m1 n2 m2 n3 m3 l o o2 o3 z=qhh 1 X Y Z n n2 n3 m3 l o o2 o3:=by kernel_rfl
theorem decP2:qgh 2 X Y Z n m1 n2 m2 n3 m3 l o o2 o3 z=qhh 2 X Y Z n n2 n3 m3 l o o2 o3:=by kernel_rfl
theorem decP3:qgh 3 X Y Z n m1 n2 m2 n3 m3 l o o2 o3 z=qhh 3 X Y Z n n2 n3 m3 l o o2 o3:=by kernel_rfl
theorem decP4:qgh 4 X Y Z n m1 n2 m2 n3 m3 l o o2 o3 z=qhh 4 X Y Z n n2 n3 m3 l o o2 o3:=by kernel_rfl
theorem decP5:qgh 5 X Y Z n m1 n2 m2 n3 m3 l o o2 o3 z=qhh 5 X Y Z n n2 n3 m3 l o o2 o3:=by kernel_rfl
theorem decP6:qgh 6 X Y Z n m1 n2 m2 n3 m3 l o o2 o3 z=qhh 6 X Y Z n n2 n3 m3 l o o2 o3:=by kernel_rfl
theorem decP7:qgh 7 X Y Z n m1 n2 m2 n3 m3 l o o2 o3 z=qhh 7 X Y Z n n2 n3 m3 l o o2 o3:=by kernel_rfl
theorem decP8:qgh 8 X Y Z n m1 n2 m2 n3 m3 l o o2 o3 z=qhh 8 X Y Z n n2 n3 m3 l o o2 o3:=by kernel_rfl
theorem decP9:qgh 9 X Y Z n m1 n2 m2 n3 m3 l o o2 o3 z=qhh 9 X Y Z n n2 n3 m3 l o o2 o3:=by kernel_rfl
theorem jwr:qgh 10 X Y Z n m1 n2 m2 n3 m3 l o o2 o3 z=qhh 10 X Y Z n n2 n3 m3 l o o2 o3:=by kernel_rfl
theorem jxr:qgh 11 X Y Z n m1 n2 m2 n3 m3 l o o2 o3 z=qhh 11 X Y Z n n2 n3 m3 l o o2 o3:=by kernel_rfl
theorem jyr:qgh 12 X Y Z n m1 n2 m2 n3 m3 l o o2 o3 z=qhh 12 X Y Z n n2 n3 m3 l o o2 o3:=by kernel_rfl
end
end Go.Proofs.YtbmgahpjgefjaaaGreatDoor.Aes
