/-
  ReplayOnce: the entries; the end.
-/
import Derived.Test.YthkgcljngalafaaDoorPr13
namespace Go.Proofs.YthkgcljngalafaaDoor.Aes
noncomputable section
open Go.Sim
open Go.Proofs
variable {α:Type}
set_option maxRecDepth 1000000
section
variable (f:HashF) (sk lm:Int) (V:Nat->Value) (N n k:Nat) (es:List MapEntry) (c:Nat) (cl fe:Int) (T:Nat->Value) (q i:Nat) (J:Junk) (z:Nat->Nat->Nat)
variable (j:Nat)
theorem on_b1 (mt:Bool):mapN (fun m=>outL [] (onB f sk lm V N n k mt m es c cl fe T q i (j+1)) (qba (onE mt m+4) 0) (on3 f sk lm V N n k mt m es c cl fe T q i j J (some (2,0))) [true,false,false] z) (qba 60 0) =
 mapN (fun m=>([decide ((j:Int)<(es.length:Int))=true,ixP j es.length,0+j * 33+33<=es.length * 33,fitM (rowM (lsM es)) (0+j * 33),(onD sk lm es c cl fe).w,qsa (cl+sk),decide (vNum ((rowM (lsM es)) (0+j * 33+0)) > cl+sk)=false,(onD sk lm es c cl fe).w,qsa (cl - sk),decide (vNum ((rowM (lsM es)) (0+j * 33+0))<cl - sk)=false,nxI j],seP (qba (onE mt m+4) 0) (onE mt m+5) (onB f sk lm V N n k mt m es c cl fe T q i (j+1)))) (qba 60 0):=by cases mt <;> kernel_rfl
theorem on_be (mt:Bool):mapN (fun m=>outL [] (onC f sk lm V N n k mt (m+1) es c cl fe T q (i+1)) (app (qba (10+m) 0) (app [onE mt m+2] (boolC mt [] [10+m]))) (on3 f sk lm V N n k mt m es c cl fe T q i j J (some (1,3))) [false] z) (qba 60 0) =
 mapN (fun m=>([decide ((j:Int)<(es.length:Int))=false,nxI i],seP (app (qba (10+m) 0) (app [onE mt m+2] (boolC mt [] [10+m]))) (onE mt m+4) (onC f sk lm V N n k mt (m+1) es c cl fe T q (i+1)))) (qba 60 0):=by cases mt <;> kernel_rfl
theorem jih (mt:Bool):mapN (fun m=>outL [] (onC f sk lm V N n k mt m es c cl fe T q i) [] (on1 f sk lm V N n k mt m es c cl fe T q i J none) [false] z) (qba 61 0) =
 mapN (fun m=>([decide ((i:Int)<(n:Int))=false],some (.inl (.bool (.lit true),[])))) (qba 61 0):=by cases mt <;> kernel_rfl
theorem on_i:outL [] (onC f sk lm V N n k true 0 [] 0 0 (-1) T 0 0) (qba 10 0) (onT f sk lm V N n k (some (1,3))) [false,true] z=([decide ((n:Int) > 60)=false,cB (nwP sk lm)=true],sM [(0,10,.int .i64 (.lit 0))] [] (qba 10 0) 10 (onC f sk lm V N n k true 0 [] 0 0 (-1) T 0 0)):=by kernel_rfl
theorem jcf:outO [] (onT f sk lm V N n k none) [true]=([decide ((n:Int) > 60)=true],tru):=by kernel_rfl
theorem jjh:outO [] (onT f sk lm V N n k none) [false,false]=([decide ((n:Int) > 60)=false,cB (nwP sk lm)=false],tru):=by kernel_rfl
theorem on_z1:outO [] (onZ f sk lm) [true]=([cB (nwP sk lm)=true],tru):=by kernel_rfl
theorem on_z0:outO [] (onZ f sk lm) [false]=([cB (nwP sk lm)=false],tru):=by kernel_rfl
theorem jkh (mt:Bool) (m:Nat):(((onC f sk lm V N n k mt m es c cl fe T q i).frames[0]?).bind fun p=>p.tmps[10]?)=some (some (.int .i64 (.sym (i:Int)))):=by cases mt <;> kernel_rfl
theorem jdf:mapN (fun m=>(((onA f sk lm V N n k m es c cl fe T q i j).frames[0]?).bind fun p=>p.tmps[15]?)) (qba 60 0)=mapN (fun _=>some (some (.int .i64 (.sym (j:Int))))) (qba 60 0):=by kernel_rfl
theorem qv1 (mt:Bool):mapN (fun m=>(((onB f sk lm V N n k mt m es c cl fe T q i j).frames[0]?).bind fun p=>p.tmps[7]?)) (qba 60 0)=mapN (fun _=>some (some (.int .i64 (.sym (j:Int))))) (qba 60 0):=by cases mt <;> kernel_rfl
theorem j7a:mapN (fun m=>(((onB f sk lm V N n k false m es c cl fe T q i j).frames[1]?).bind fun p=>p.tmps[9]?)) (qba 60 0)=mapN (fun m=>some (some (.slice ⟨10+m,.lit 0⟩ (.sym q) (.rest (10+m) 0)))) (qba 60 0):=by kernel_rfl
end
end
end Go.Proofs.YthkgcljngalafaaDoor.Aes
