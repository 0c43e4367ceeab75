/-
  ReplayOnce: calls that move the clock.
-/
import Derived.Test.YthkgcljngalafaaDoorPr13
namespace Go.Proofs.YthkgcljngalafaaDoor.Aes
noncomputable section
open Go.Sim
open Go.Proofs
variable {α:Type}
set_option maxRecDepth 1000000
section
variable (f:HashF) (sk lm:Int) (V:Nat->Value) (N n k:Nat) (es:List MapEntry) (c:Nat) (cl fe:Int) (T:Nat->Value) (q i:Nat) (J:Junk) (z:Nat->Nat->Nat)
theorem on_u1 (mt:Bool):mapN (fun m=>outL [] (onB f sk lm V N n k mt m ((onD sk lm es c cl fe).esN (aN V i)) c (clk (aN V i) cl) fe T q i 0) (qba (onE mt m+4) 0) (on1 f sk lm V N n k mt m es c cl fe T q i J (some (2,0))) [true,true,true] z) (qba 60 0) =
 mapN (fun m=>(plA V N n i [w5 V i 5 true,(onD sk lm es c cl fe).w,cB (vTm (aN V i))=true,(onD sk lm ((onD sk lm es c cl fe).esN (aN V i)) c (clk (aN V i) cl) fe).w],sM mo7 [] (qba (onE mt m+4) 0) (onE mt m+4) (onB f sk lm V N n k mt m ((onD sk lm es c cl fe).esN (aN V i)) c (clk (aN V i) cl) fe T q i 0))) (qba 60 0):=by cases mt <;> kernel_rfl
theorem on_u0 (mt:Bool):mapN (fun m=>outL [] (onB f sk lm V N n k mt m es c cl fe T q i 0) (qba (onE mt m+4) 0) (on1 f sk lm V N n k mt m es c cl fe T q i J (some (2,0))) [true,true,false] z) (qba 60 0) =
 mapN (fun m=>(plA V N n i [w5 V i 5 true,(onD sk lm es c cl fe).w,cB (vTm (aN V i))=false,(onD sk lm es c cl fe).w],sM mo7 [] (qba (onE mt m+4) 0) (onE mt m+4) (onB f sk lm V N n k mt m es c cl fe T q i 0))) (qba 60 0):=by cases mt <;> kernel_rfl
theorem on_l2 (mt:Bool):mapN (fun m=>outL [] (onC f sk lm V N n k mt m es c cl fe T q i) [] (on1 f sk lm V N n k mt m es c cl fe T q i J none) [true,false,true,true,false,false,true] z) (qba 60 0) =
 mapN (fun m=>(plA V N n i [w5 V i 5 false,w5 V i 6 true,(onD sk lm es c cl fe).w,cB (nwP sk lm)=true,(onD sk lm [] 0 0 (-1)).w,cB (vTm (mxN cl (aN V i)))=false,decide ((mxN cl (aN V i))<=1099511627776)=false,decide ((mxN cl (aN V i)) > 1099511627776)=true],some (.inl (.bool (.lit true),[])))) (qba 60 0):=by cases mt <;> kernel_rfl
end
end
end Go.Proofs.YthkgcljngalafaaDoor.Aes
