/-
  ReplayOnce: digests with a time.
-/
import Derived.Test.YthkgcljngalafaaDoorPr13
namespace Go.Proofs.YthkgcljngalafaaDoor.Aes
noncomputable section
open Go.Sim
open Go.Proofs
variable {α:Type}
set_option maxRecDepth 1000000
section
variable (f:HashF) (sk lm:Int) (V:Nat->Value) (N n k:Nat) (es:List MapEntry) (c:Nat) (cl fe:Int) (T:Nat->Value) (q i:Nat) (J:Junk) (z:Nat->Nat->Nat)
theorem on_d0 (mt:Bool):mapN (fun m=>outL [] (onC f sk lm V N n k mt m es c cl fe T q (i+1)) (qba (onE mt m - 1) 0) (on1 f sk lm V N n k mt m es c cl fe T q i J (some (1,3))) [true,false,false,false,false] z) (qba 60 0) =
 mapN (fun m=>(plA V N n i [w5 V i 5 false,w5 V i 6 false,w5 V i 7 false,Int.ofNat (aB V i).toNat=Int.ofNat (aB V i).toNat,(onD sk lm es c cl fe).w,vvT (aT V i) (aN V i)=false,nxI i],seP (qba (onE mt m - 1) 0) (onE mt m) (onC f sk lm V N n k mt m es c cl fe T q (i+1)))) (qba 60 0):=by cases mt <;> kernel_rfl
theorem on_d1 (mt:Bool):mapN (fun m=>outL [] (onC f sk lm V N n k mt m (onEs f V i (onD sk lm es c cl fe)) (onCs f V i (onD sk lm es c cl fe)) (clk (aN V i) cl) fe T q (i+1)) (qba (onE mt m - 1) 0) (on1 f sk lm V N n k mt m es c cl fe T q i J (some (1,3))) [true,false,false,false,true,true] z) (qba 60 0) =
 mapN (fun m=>(plA V N n i [w5 V i 5 false,w5 V i 6 false,w5 V i 7 false,Int.ofNat (aB V i).toNat=Int.ofNat (aB V i).toNat,(onD sk lm es c cl fe).w,vvT (aT V i) (aN V i)=true,(qhi f V i (onD sk lm es c cl fe) != 0)=true,nxI i],seP (qba (onE mt m - 1) 0) (onE mt m) (onC f sk lm V N n k mt m (onEs f V i (onD sk lm es c cl fe)) (onCs f V i (onD sk lm es c cl fe)) (clk (aN V i) cl) fe T q (i+1)))) (qba 60 0):=by cases mt <;> kernel_rfl
theorem on_dn:mapN (fun m=>outL [] (onB f sk lm V N n k false m (onEs f V i (onD sk lm es c cl fe)) (onCs f V i (onD sk lm es c cl fe)) (clk (aN V i) cl) fe T 1 i 0) (app (qba (10+m) 0) [12+m,10+m,13+m,14+m,15+m,16+m]) (on1 f sk lm V N n k true m es c cl fe T q i J (some (2,0))) [true,false,false,false,true,false] z) (qba 60 0) =
 mapN (fun m=>(plA V N n i [w5 V i 5 false,w5 V i 6 false,w5 V i 7 false,Int.ofNat (aB V i).toNat=Int.ofNat (aB V i).toNat,(onD sk lm es c cl fe).w,vvT (aT V i) (aN V i)=true,(qhi f V i (onD sk lm es c cl fe) != 0)=false,(onD sk lm (onEs f V i (onD sk lm es c cl fe)) (onCs f V i (onD sk lm es c cl fe)) (clk (aN V i) cl) fe).w],sM ((1,9,.slice ⟨12+m,.lit 0⟩ (.lit 1) (.rest (12+m) 0))::mo7) [(10+m,.ent (j0c V i))] (app (qba (10+m) 0) [12+m,10+m,13+m,14+m,15+m,16+m]) (17+m) (onB f sk lm V N n k false m (onEs f V i (onD sk lm es c cl fe)) (onCs f V i (onD sk lm es c cl fe)) (clk (aN V i) cl) fe T 1 i 0))) (qba 60 0):=by kernel_rfl
theorem on_dr:mapN (fun m=>outL [] (onA f sk lm V N n k m (onEs f V i (onD sk lm es c cl fe)) (onCs f V i (onD sk lm es c cl fe)) (clk (aN V i) cl) fe T q i 0) (qba (12+m) 0) (on1 f sk lm V N n k false m es c cl fe T q i J (some (1,10))) [true,false,false,false,true,false] z) (qba 60 0) =
 mapN (fun m=>(plA V N n i [w5 V i 5 false,w5 V i 6 false,w5 V i 7 false,Int.ofNat (aB V i).toNat=Int.ofNat (aB V i).toNat,(onD sk lm es c cl fe).w,vvT (aT V i) (aN V i)=true,(qhi f V i (onD sk lm es c cl fe) != 0)=false],sM [(0,15,.int .i64 (.lit 0))] [] (qba (12+m) 0) (12+m) (onA f sk lm V N n k m (onEs f V i (onD sk lm es c cl fe)) (onCs f V i (onD sk lm es c cl fe)) (clk (aN V i) cl) fe T q i 0))) (qba 60 0):=by kernel_rfl
end
end
end Go.Proofs.YthkgcljngalafaaDoor.Aes
