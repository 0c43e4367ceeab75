/-
  Routes: the five pairs of the chapter in order: runs, part 1.
-/
import Derived.Test.YtbhlngmhgplepaaDoorPq7
namespace Go.Proofs.YtbhlngmhgplepaaDoor.Aes
noncomputable section
open Go.Sim
open Go.Proofs
variable {α:Type}
set_option maxRecDepth 1000000
theorem j4b (z:Nat->Nat->Nat):zar (fun k=>zc1 [0,25] zf8 (zgt 1 k) z) (qsa 24 0)=zar (fun k=>(zfZ z 1 k,some zgd)) (qsa 24 0):=by kernel_rfl
end
end Go.Proofs.YtbhlngmhgplepaaDoor.Aes
