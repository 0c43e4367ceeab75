/-
  ReplayOnce: names.
-/
import Derived.Test.YthkgcljngalafaaDoorPr13
namespace Go.Proofs.YthkgcljngalafaaDoor.Aes
noncomputable section
open Go.Sim
open Go.Proofs
variable {α:Type}
set_option maxRecDepth 1000000
section
variable (f:HashF) (sk lm:Int) (V:Nat->Value) (N n k:Nat) (es:List MapEntry) (c:Nat) (cl fe:Int) (T:Nat->Value) (q i:Nat) (J:Junk) (z:Nat->Nat->Nat)
variable (j:Nat)
theorem no_b (mt:Bool):mapN (fun m=>boolC (q0a 5 (qba (onE mt m+4) 0) (onB f sk lm V N n k mt m es c cl fe T q i j) (onB f sk lm V N n k mt m es c cl fe T q i j)) (allN qva (onB f sk lm V N n k mt m es c cl fe T q i j).heap) false) (qba 60 0)=mapN (fun _=>true) (qba 60 0):=by cases mt <;> kernel_rfl
theorem no_l1 (mt:Bool):mapN (fun m=>boolC (q0a 5 (onN [onE mt m,onE mt m+1,9] 7 (onE mt m - 10) [onE mt m+2,onE mt m+3,onE mt m+4,onE mt m+5]) (onB f sk lm V N n k mt m es c cl fe T q i j) (onB f sk lm V N n k mt m es c cl fe T q i j)) (allN qva (onB f sk lm V N n k mt m es c cl fe T q i j).heap) false) (qba 60 0)=mapN (fun _=>true) (qba 60 0):=by cases mt <;> kernel_rfl
theorem no_ld (mt:Bool):mapN (fun m=>boolC (q0a 5 (onN [onE mt m+1,onE mt m+2,9] 7 (onE mt m - 10) [onE mt m+3,onE mt m+4,onE mt m+5,onE mt m+6]) (onB f sk lm V N n k mt m es c cl fe T q i j) (onB f sk lm V N n k mt m es c cl fe T q i j)) (allN qva (onB f sk lm V N n k mt m es c cl fe T q i j).heap) false) (qba 60 0)=mapN (fun _=>true) (qba 60 0):=by cases mt <;> kernel_rfl
theorem no_dn:mapN (fun m=>boolC (q0a 5 (app (qba (10+m) 0) [12+m,10+m,13+m,14+m,15+m,16+m]) (onB f sk lm V N n k false m es c cl fe T q i j) (onB f sk lm V N n k false m es c cl fe T q i j)) (allN qva (onB f sk lm V N n k false m es c cl fe T q i j).heap) false) (qba 60 0)=mapN (fun _=>true) (qba 60 0):=by kernel_rfl
theorem no_ae:mapN (fun m=>boolC (q0a 5 (app (qba (10+m) 0) [13+m,11+m,14+m,15+m,16+m,17+m]) (onB f sk lm V N n k false m es c cl fe T q i j) (onB f sk lm V N n k false m es c cl fe T q i j)) (allN qva (onB f sk lm V N n k false m es c cl fe T q i j).heap) false) (qba 60 0)=mapN (fun _=>true) (qba 60 0):=by kernel_rfl
theorem no_a:mapN (fun m=>boolC (q0a 5 (qba (12+m) 0) (onA f sk lm V N n k m es c cl fe T q i j) (onA f sk lm V N n k m es c cl fe T q i j)) (allN qva (onA f sk lm V N n k m es c cl fe T q i j).heap) false) (qba 60 0)=mapN (fun _=>true) (qba 60 0):=by kernel_rfl
theorem no_c (mt:Bool):mapN (fun m=>boolC (q0a 5 (qba (onE mt m - 1) 0) (onC f sk lm V N n k mt m es c cl fe T q i) (onC f sk lm V N n k mt m es c cl fe T q i)) (allN qva (onC f sk lm V N n k mt m es c cl fe T q i).heap) false) (qba 60 0)=mapN (fun _=>true) (qba 60 0):=by cases mt <;> kernel_rfl
theorem no_e (mt:Bool):mapN (fun m=>boolC (q0a 5 (app (qba (10+m) 0) (app [onE mt m+2] (boolC mt [] [10+m]))) (onC f sk lm V N n k mt (m+1) es c cl fe T q i) (onC f sk lm V N n k mt (m+1) es c cl fe T q i)) (allN qva (onC f sk lm V N n k mt (m+1) es c cl fe T q i).heap) false) (qba 60 0)=mapN (fun _=>true) (qba 60 0):=by cases mt <;> kernel_rfl
theorem no_h:mapN (fun m=>(onB f sk lm V N n k false m es c cl fe T q i j).heap[10+m]?) (qba 60 0)=mapN (fun _=>some (.ent (.own (.raw T (q * 4)) false 39))) (qba 60 0):=by kernel_rfl
theorem no_h7 (mt:Bool) (m:Nat):(onB f sk lm V N n k mt m es c cl fe T q i j).heap[7]? = some (.ent (chO 8 sk lm cl fe)):=rfl
theorem no_8 (mt:Bool):mapN (fun m=>q8a (onN [onE mt m+1,onE mt m+2,9] 7 (onE mt m - 10) [onE mt m+3,onE mt m+4,onE mt m+5,onE mt m+6]) (onE mt m+7) 8) (qba 60 0)=mapN (fun m=>onE mt m+2) (qba 60 0):=by cases mt <;> kernel_rfl
theorem no_9:mapN (fun m=>q8a (app (qba (10+m) 0) [12+m,10+m,13+m,14+m,15+m,16+m]) (17+m) (10+m)) (qba 60 0)=mapN (fun m=>12+m) (qba 60 0):=by kernel_rfl
theorem no_i:boolC (q0a 5 (qba 10 0) (onC f sk lm V N n k true 0 es c cl fe T q i) (onC f sk lm V N n k true 0 es c cl fe T q i)) (allN qva (onC f sk lm V N n k true 0 es c cl fe T q i).heap) false=true:=by kernel_rfl
end
end
end Go.Proofs.YthkgcljngalafaaDoor.Aes
