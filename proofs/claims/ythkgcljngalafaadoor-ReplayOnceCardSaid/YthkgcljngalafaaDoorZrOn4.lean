/-
  ReplayOnce: the calls that have been taken.
-/
import Derived.Test.YthkgcljngalafaaDoorPr13
namespace Go.Proofs.YthkgcljngalafaaDoor.Aes
noncomputable section
open Go.Sim
open Go.Proofs
variable {α:Type}
set_option maxRecDepth 1000000
section
variable (f:HashF) (sk lm:Int) (V:Nat->Value) (N n k:Nat) (es:List MapEntry) (c:Nat) (cl fe:Int) (T:Nat->Value) (q i:Nat) (J:Junk) (z:Nat->Nat->Nat)
variable (j:Nat)
theorem on_a1:mapN (fun m=>outL [] (onA f sk lm V N n k m es c cl fe T q i (j+1)) (qba (12+m) 0) (on2 f sk lm V N n k m es c cl fe T q i j J (some (1,10))) [true,true,false] z) (qba 60 0) =
 mapN (fun m=>([decide ((j:Int)<(q:Int))=true,ixP j q,0+j * 4+1<q * 4,fitK (.i .i64) (T (0+j * 4+1)),(aT T j == aT V i)=true,ixP j q,0+j * 4+3<q * 4,fitK (.i .u8) (T (0+j * 4+3)),(((aB T j).toNat:Int) == ((aB V i).toNat:Int))=false,nxI j],seP (qba (12+m) 0) (12+m) (onA f sk lm V N n k m es c cl fe T q i (j+1)))) (qba 60 0):=by kernel_rfl
theorem on_a0:mapN (fun m=>outL [] (onA f sk lm V N n k m es c cl fe T q i (j+1)) (qba (12+m) 0) (on2 f sk lm V N n k m es c cl fe T q i j J (some (1,10))) (true::repN false 10) z) (qba 60 0) =
 mapN (fun m=>((app [decide ((j:Int)<(q:Int))=true,ixP j q,0+j * 4+1<q * 4,fitK (.i .i64) (T (0+j * 4+1))] (app (repN ((aT T j == aT V i)=false) 9) [nxI j])),seP (qba (12+m) 0) (12+m) (onA f sk lm V N n k m es c cl fe T q i (j+1)))) (qba 60 0):=by kernel_rfl
theorem on_ae:mapN (fun m=>outL [] (onB f sk lm V N n k false m es c cl fe (qze T q V i) (q+1) i 0) (app (qba (10+m) 0) [13+m,11+m,14+m,15+m,16+m,17+m]) (on2 f sk lm V N n k m es c cl fe T q i j J (some (2,0))) [false] z) (qba 60 0) =
 mapN (fun m=>([decide ((j:Int)<(q:Int))=false,4<=4,0+q * 4<=q * 4,((q+1) * 32<140737488355328/\q+1<140737488355328)/\∀ r,r<4->(q5c V i r).oneCell'=true,(onD sk lm es c cl fe).w],sM mo7 [] (app (qba (10+m) 0) [13+m,11+m,14+m,15+m,16+m,17+m]) (18+m) (onB f sk lm V N n k false m es c cl fe (qze T q V i) (q+1) i 0))) (qba 60 0):=by kernel_rfl
end
end
end Go.Proofs.YthkgcljngalafaaDoor.Aes
