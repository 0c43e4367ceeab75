/-
  Chained blocks, third part: what a run of Decrypt comes to, for each number of blocks.
-/
import Derived.Test.YtcpafideogckmaaGreatDoorCzCts2
namespace Go.Proofs.YtcpafideogckmaaGreatDoor.Aes
noncomputable section
open Go.Sim
open Go.Proofs
variable {α:Type}
def q9j (ks:Nat->BitVec 8) (bs:List Blk):Blk->List Blk:=List.rec (motive:=fun _=>Blk->List Blk) (fun _=>[]) (fun b _ ih prev=>addL (decL ks b) prev::ih b) bs
def decJ (X Y:Nat->BitVec 8) (o o2:Nat) (bs:List Blk):Blk:=q3m (q9j (qba (q9e (qha X o))) bs (qha Y o2))
def qwp (Z:Nat->BitVec 8) (o3 n3 k:Nat) (r:List Prop):List Prop:=IsB (qea Z)::(o3+k+16<=n3)::r
def qs8 (Z:Nat->BitVec 8) (o3 n3 k:Nat) (r:List Prop):List Prop:=IsB (qea Z)::(16<=16/\o3+k+16<=n3)::r
def qow (Z:Nat->BitVec 8) (o3 n3 k:Nat) (r:List Prop):List Prop:=qwp Z o3 n3 k ((16<=16/\16<=16)::r)
def qys (Z:Nat->BitVec 8) (o3 n3 k k':Nat) (r:List Prop):List Prop:=qwp Z o3 n3 k' (qs8 Z o3 n3 k r)
def runB (Z:Nat->BitVec 8) (o3 n3 n:Nat) (r:List Prop):List Prop:=Nat.rec (motive:=fun _=>List Prop) r (fun j _=>qow Z o3 n3 0 (Nat.rec (motive:=fun _=>Nat->List Prop) (fun _=>r) (fun _ ih i=>qys Z o3 n3 (16 * i) (16 * Nat.succ i) (ih (Nat.succ i))) j 0)) n
def jpl (m3 i:Nat) (r:List Prop):List Prop:=(16 * i+16<=m3)::r
def roomP (m3 l i:Nat) (r:List Prop):List Prop:=(decide (((16 * i:Nat):Int)<(l:Int))=true)::(decide ((l:Int)<((16 * i+16:Nat):Int))=false)::(16 * i+16<=m3)::r
def jql (m:Nat) (X Y Z:Nat->BitVec 8) (n n2 n3 m3 o o2 o3:Nat):List Prop :=
 q4h X Y o n o2 n2 (qgo (jpl m3) (m+2) 0 (qwp Z o3 n3 (16 * m) (runB Z o3 n3 m (Nat.rec (motive:=fun _=>List Prop->List Prop) (qow Z o3 n3 16) (fun j _=>qys Z o3 n3 (16 * j) (16 * j+32)) m (qys Z o3 n3 (16 * m+16) (16 * m) [16 * m+32<=16 * m+32])))))
def qmh (m:Nat) (X Y Z:Nat->BitVec 8) (n m1 n2 m2 n3 m3 o o2 o3:Nat) (z:Nat->Nat->Nat):List Prop × Option (SV × List (Option SO)) :=
 outZ [26+6 * m] (qca quf 20000 60 (qup m1 m2 m3 o o2 o3 (.lit (16 * m+32))) (qvp X Y Z n n2 n3)) [] z
def qnh (m:Nat) (X Y Z:Nat->BitVec 8) (n n2 n3 m3 o o2 o3:Nat):List Prop × Option (SV × List (Option SO)) :=
 (jql m X Y Z n n2 n3 m3 o o2 o3,some (qwg (26+6 * m) (.lit (16 * m+32)),[some (.own (.lst (bx (decJ X Y o o2 (swL (q6c Z o3 (m+2)))))) false 5)]))
def dec1L (X Y Z:Nat->BitVec 8) (n m1 n2 m2 n3 m3 o o2 o3:Nat) (z:Nat->Nat->Nat):List Prop × Option (SV × List (Option SO)) :=
 outZ [18] (qca quf 20000 60 (qup m1 m2 m3 o o2 o3 (.lit 16)) (qvp X Y Z n n2 n3)) [] z
def dec1P (X Y Z:Nat->BitVec 8) (n n2 n3 m3 o o2 o3:Nat):List Prop:=q4h X Y o n o2 n2 (jpl m3 0 (qow Z o3 n3 0 [16<=16]))
def dec1R (X Y Z:Nat->BitVec 8) (n n2 n3 m3 o o2 o3:Nat):List Prop × Option (SV × List (Option SO)) :=
 (dec1P X Y Z n n2 n3 m3 o o2 o3,some (qwg 18 (.lit 16),[some (.own (.lst (bx (decJ X Y o o2 (q6c Z o3 1)))) false 5)]))
def qpd (l k:Nat):Nat:=((l:Int) - ((k:Nat):Int)).toNat
def qak (ks:Nat->BitVec 8) (Z:Nat->BitVec 8) (l o3 k:Nat):Nat->BitVec 8:=catB (fun i=>qtp Z l o3 (k+16) (0+i)) (qpd l (k+16)) fun i=>qba (decL ks (qha Z (o3+k))) (0+qpd l (k+16) * 1+i)
def bndC (l k u:Nat):Prop:=0<=(l:Int) - (k:Int)/\(l:Int) - (k:Int)<=(u:Int)
def jrl (m:Nat) (X Y Z:Nat->BitVec 8) (n n2 n3 m3 l o o2 o3:Nat):List Prop :=
 q4h X Y o n o2 n2 ((decide ((l:Int)<16)=false)::(decide ((l:Int) > 131072)=false)::qgo (roomP m3 l) (m+1) 0 (cutC Z l o3 n3 m3 (16 * m+16) ((decide (((16 * m+32:Nat):Int)<(l:Int))=false)::qza ((l:Int) - ((16 * m+16:Nat):Int))::qwp Z o3 n3 (16 * m)
  (bndC l (16 * m+16) (l - (16 * m+16)+(qzc (padN l (16 * m+16))).size)::bndC l (16 * m+16) (qpd l (16 * m+16))::bndC l (16 * m+16) 16::(0+qpd l (16 * m+16) * 1+(16 - qpd l (16 * m+16))<=16)
   :: (0+qpd l (16 * m+16)<=l - (16 * m+16)+(qzc (padN l (16 * m+16))).size/\IsB (qea (qtp Z l o3 (16 * m+16))))::(qpd l (16 * m+16)<qpd l (16 * m+16)+(16 - qpd l (16 * m+16))/\q7e (qpd l (16 * m+16)+(16 - qpd l (16 * m+16))) 1/\1=1)
   :: runB Z o3 n3 m ((decide (qpd l (16 * m+16)+(16 - qpd l (16 * m+16))=16)=true)::IsB (qea (qak (qba (q9e (qha X o))) Z l o3 (16 * m)))::(0+16<=qpd l (16 * m+16)+(16 - qpd l (16 * m+16)))
    :: Nat.rec (motive:=fun _=>List Prop->List Prop) (fun r=>(16<=16/\16<=16)::r) (fun j _=>qs8 Z o3 n3 (16 * j)) m (qwp Z o3 n3 (16 * m) ((decide (qpd l (16 * m+16)+(16 - qpd l (16 * m+16))=16)=true)::IsB (qea (qak (qba (q9e (qha X o))) Z l o3 (16 * m)))
     :: (16<=16/\0+16<=qpd l (16 * m+16)+(16 - qpd l (16 * m+16)))::(0<=(l:Int)/\(l:Int)<=((16 * m+32:Nat):Int))::(decide (l=0)=false)::[0+l<=16 * m+32/\q7e l 1])))))))
def qoh (m:Nat) (X Y Z:Nat->BitVec 8) (n m1 n2 m2 n3 m3 l o o2 o3:Nat) (z:Nat->Nat->Nat):List Prop × Option (SV × List (Option SO)) :=
 outZ [28+6 * m] (qca quf 20000 60 (qup m1 m2 m3 o o2 o3 (.sym l)) (qvp X Y Z n n2 n3)) (false::false::jnl [true,true,false,true,false,true,true,false] (m+1)) z
def qph (m:Nat) (X Y Z:Nat->BitVec 8) (n n2 n3 m3 l o o2 o3:Nat):List Prop × Option (SV × List (Option SO)) :=
 (jrl m X Y Z n n2 n3 m3 l o o2 o3,some (qwg (28+6 * m) (.sym l),[some (.own (.fn (fun i=>qea (qba (decJ X Y o o2 (app (q6c Z o3 m) [qha (qak (qba (q9e (qha X o))) Z l o3 (16 * m)) 0,qha Z (o3+16 * m)]))) (0+i)) l) false 5)]))
section
variable (X Y Z:Nat->BitVec 8) (n m1 n2 m2 n3 m3 l o o2 o3:Nat) (z:Nat->Nat->Nat)
theorem dec1:dec1L X Y Z n m1 n2 m2 n3 m3 o o2 o3 z=dec1R X Y Z n n2 n3 m3 o o2 o3:=by kernel_rfl
theorem decF0:qmh 0 X Y Z n m1 n2 m2 n3 m3 o o2 o3 z=qnh 0 X Y Z n n2 n3 m3 o o2 o3:=by kernel_rfl
theorem decF1:qmh 1 X Y Z n m1 n2 m2 n3 m3 o o2 o3 z=qnh 1 X Y Z n n2 n3 m3 o o2 o3:=by kernel_rfl
theorem decF2:qmh 2 X Y Z n m1 n2 m2 n3 m3 o o2 o3 z=qnh 2 X Y Z n n2 n3 m3 o o2 o3:=by kernel_rfl
theorem decF3:qmh 3 X Y Z n m1 n2 m2 n3 m3 o o2 o3 z=qnh 3 X Y Z n n2 n3 m3 o o2 o3:=by kernel_rfl
theorem decF4:qmh 4 X Y Z n m1 n2 m2 n3 m3 o o2 o3 z=qnh 4 X Y Z n n2 n3 m3 o o2 o3:=by kernel_rfl
theorem decF5:qmh 5 X Y Z n m1 n2 m2 n3 m3 o o2 o3 z=qnh 5 X Y Z n n2 n3 m3 o o2 o3:=by kernel_rfl
theorem decF6:qmh 6 X Y Z n m1 n2 m2 n3 m3 o o2 o3 z=qnh 6 X Y Z n n2 n3 m3 o o2 o3:=by kernel_rfl
theorem decF7:qmh 7 X Y Z n m1 n2 m2 n3 m3 o o2 o3 z=qnh 7 X Y Z n n2 n3 m3 o o2 o3:=by kernel_rfl
theorem decF8:qmh 8 X Y Z n m1 n2 m2 n3 m3 o o2 o3 z=qnh 8 X Y Z n n2 n3 m3 o o2 o3:=by kernel_rfl
theorem decF9:qmh 9 X Y Z n m1 n2 m2 n3 m3 o o2 o3 z=qnh 9 X Y Z n n2 n3 m3 o o2 o3:=by kernel_rfl
theorem jkt:qmh 10 X Y Z n m1 n2 m2 n3 m3 o o2 o3 z=qnh 10 X Y Z n n2 n3 m3 o o2 o3:=by kernel_rfl
theorem jlt:qmh 11 X Y Z n m1 n2 m2 n3 m3 o o2 o3 z=qnh 11 X Y Z n n2 n3 m3 o o2 o3:=by kernel_rfl
theorem jmt:qmh 12 X Y Z n m1 n2 m2 n3 m3 o o2 o3 z=qnh 12 X Y Z n n2 n3 m3 o o2 o3:=by kernel_rfl
theorem decP0:qoh 0 X Y Z n m1 n2 m2 n3 m3 l o o2 o3 z=qph 0 X Y Z n n2 n3 m3 l o o2 o3:=by kernel_rfl
theorem decP1:qoh 1 X Y Z n m1 n2 m2 n3 m3 l o o2 o3 z=qph 1 X Y Z n n2 n3 m3 l o o2 o3:=by kernel_rfl
theorem decP2:qoh 2 X Y Z n m1 n2 m2 n3 m3 l o o2 o3 z=qph 2 X Y Z n n2 n3 m3 l o o2 o3:=by kernel_rfl
theorem decP3:qoh 3 X Y Z n m1 n2 m2 n3 m3 l o o2 o3 z=qph 3 X Y Z n n2 n3 m3 l o o2 o3:=by kernel_rfl
theorem decP4:qoh 4 X Y Z n m1 n2 m2 n3 m3 l o o2 o3 z=qph 4 X Y Z n n2 n3 m3 l o o2 o3:=by kernel_rfl
theorem decP5:qoh 5 X Y Z n m1 n2 m2 n3 m3 l o o2 o3 z=qph 5 X Y Z n n2 n3 m3 l o o2 o3:=by kernel_rfl
theorem decP6:qoh 6 X Y Z n m1 n2 m2 n3 m3 l o o2 o3 z=qph 6 X Y Z n n2 n3 m3 l o o2 o3:=by kernel_rfl
theorem decP7:qoh 7 X Y Z n m1 n2 m2 n3 m3 l o o2 o3 z=qph 7 X Y Z n n2 n3 m3 l o o2 o3:=by kernel_rfl
theorem decP8:qoh 8 X Y Z n m1 n2 m2 n3 m3 l o o2 o3 z=qph 8 X Y Z n n2 n3 m3 l o o2 o3:=by kernel_rfl
theorem decP9:qoh 9 X Y Z n m1 n2 m2 n3 m3 l o o2 o3 z=qph 9 X Y Z n n2 n3 m3 l o o2 o3:=by kernel_rfl
theorem jnt:qoh 10 X Y Z n m1 n2 m2 n3 m3 l o o2 o3 z=qph 10 X Y Z n n2 n3 m3 l o o2 o3:=by kernel_rfl
theorem jot:qoh 11 X Y Z n m1 n2 m2 n3 m3 l o o2 o3 z=qph 11 X Y Z n n2 n3 m3 l o o2 o3:=by kernel_rfl
theorem jpt:qoh 12 X Y Z n m1 n2 m2 n3 m3 l o o2 o3 z=qph 12 X Y Z n n2 n3 m3 l o o2 o3:=by kernel_rfl
end
end
end Go.Proofs.YtcpafideogckmaaGreatDoor.Aes
