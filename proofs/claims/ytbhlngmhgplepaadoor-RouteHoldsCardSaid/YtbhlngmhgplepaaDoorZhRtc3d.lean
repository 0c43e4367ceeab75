/-
  Routes: the five pairs of the chapter in order: runs, part 3.
-/
import Derived.Test.YtbhlngmhgplepaaDoorPh7
namespace Go.Proofs.YtbhlngmhgplepaaDoor.Aes
noncomputable section
open Go.Sim
open Go.Proofs
variable {α:Type}
set_option maxRecDepth 1000000
theorem jjb (z:Nat->Nat->Nat):zas (fun k=>zcL [0,25] zfN (zf4 3 k) z) (qqa 24 0)=zas (fun k=>(zfy z 3 k,some zfS)) (qqa 24 0):=by kernel_rfl
end
end Go.Proofs.YtbhlngmhgplepaaDoor.Aes
