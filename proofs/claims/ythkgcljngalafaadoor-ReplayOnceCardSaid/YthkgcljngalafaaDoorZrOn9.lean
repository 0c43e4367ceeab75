/-
  ReplayOnce: losses, loads.
-/
import Derived.Test.YthkgcljngalafaaDoorPr13
namespace Go.Proofs.YthkgcljngalafaaDoor.Aes
noncomputable section
open Go.Sim
open Go.Proofs
variable {α:Type}
set_option maxRecDepth 1000000
section
variable (f:HashF) (sk lm:Int) (V:Nat->Value) (N n k:Nat) (es:List MapEntry) (c:Nat) (cl fe:Int) (T:Nat->Value) (q i:Nat) (J:Junk) (z:Nat->Nat->Nat)
theorem on_l1 (mt:Bool):mapN (fun m=>outL [] (onB f sk lm V N n k mt m ((onD sk lm [] 0 0 (-1)).esN (mxN cl (aN V i))) 0 (clk (mxN cl (aN V i)) 0) (clk (mxN cl (aN V i)) 0+sk) T q i 0) (onN [onE mt m,onE mt m+1,9] 7 (onE mt m - 10) [onE mt m+2,onE mt m+3,onE mt m+4,onE mt m+5]) (on1 f sk lm V N n k mt m es c cl fe T q i J (some (2,0))) [true,false,true,true,true,false] z) (qba 60 0) =
 mapN (fun m=>(plA V N n i [w5 V i 5 false,w5 V i 6 true,(onD sk lm es c cl fe).w,cB (nwP sk lm)=true,(onD sk lm [] 0 0 (-1)).w,cB (vTm (mxN cl (aN V i)))=true,decide ((mxN cl (aN V i)) > 1099511627776)=false,(onD sk lm ((onD sk lm [] 0 0 (-1)).esN (mxN cl (aN V i))) 0 (clk (mxN cl (aN V i)) 0) (clk (mxN cl (aN V i)) 0+sk)).w],sM mo7 [] (onN [onE mt m,onE mt m+1,9] 7 (onE mt m - 10) [onE mt m+2,onE mt m+3,onE mt m+4,onE mt m+5]) (onE mt m+6) (onB f sk lm V N n k mt m ((onD sk lm [] 0 0 (-1)).esN (mxN cl (aN V i))) 0 (clk (mxN cl (aN V i)) 0) (clk (mxN cl (aN V i)) 0+sk) T q i 0))) (qba 60 0):=by cases mt <;> kernel_rfl
theorem on_ld (mt:Bool):mapN (fun m=>outL [] (onB f sk lm V N n k mt m (esX ((onD sk lm es c cl fe).x) (cntI ((onD sk lm es c cl fe).x))) (cntI ((onD sk lm es c cl fe).x)) cl fe T q i 0) (onN [onE mt m+1,onE mt m+2,9] 7 (onE mt m - 10) [onE mt m+3,onE mt m+4,onE mt m+5,onE mt m+6]) (on1 f sk lm V N n k mt m es c cl fe T q i J (some (2,0))) [true,false,false,true,false,false,true] z) (qba 60 0) =
 mapN (fun m=>(plA V N n i [w5 V i 5 false,w5 V i 6 false,w5 V i 7 true,(onD sk lm es c cl fe).w,IsB (qab ((onD sk lm es c cl fe).x)),(onD sk lm es c cl fe).n=(onD sk lm es c cl fe).n/\(onD sk lm es c cl fe).n<=1152921504606846976,cB (qfz ((onD sk lm es c cl fe).x) (onD sk lm es c cl fe).n)=false,cB (qht ((onD sk lm es c cl fe).x) (onD sk lm es c cl fe).n)=false,cB (HeadOK ((onD sk lm es c cl fe).x)/\qlh ((onD sk lm es c cl fe).x))=true,(doC (esX ((onD sk lm es c cl fe).x) (cntI ((onD sk lm es c cl fe).x))) (cntI ((onD sk lm es c cl fe).x)) (bnI ((onD sk lm es c cl fe).x) 0) (bnI ((onD sk lm es c cl fe).x) 8) (bnI ((onD sk lm es c cl fe).x) 16) (bnI ((onD sk lm es c cl fe).x) 24 - 1) 7 8).w],sM mo7 [(7,.ent (chO (onE mt m+2) (bnI ((onD sk lm es c cl fe).x) 0) (bnI ((onD sk lm es c cl fe).x) 8) (bnI ((onD sk lm es c cl fe).x) 16) (bnI ((onD sk lm es c cl fe).x) 24 - 1)))] (onN [onE mt m+1,onE mt m+2,9] 7 (onE mt m - 10) [onE mt m+3,onE mt m+4,onE mt m+5,onE mt m+6]) (onE mt m+7) (onB f sk lm V N n k mt m (esX ((onD sk lm es c cl fe).x) (cntI ((onD sk lm es c cl fe).x))) (cntI ((onD sk lm es c cl fe).x)) cl fe T q i 0))) (qba 60 0):=by cases mt <;> kernel_rfl
end
end
end Go.Proofs.YthkgcljngalafaaDoor.Aes
