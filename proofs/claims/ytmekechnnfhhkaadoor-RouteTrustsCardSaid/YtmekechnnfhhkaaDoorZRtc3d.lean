/-
  Routes: the five pairs of the chapter in order: runs, part 3.
-/
import Derived.Test.YtmekechnnfhhkaaDoorPk6
namespace Go.Proofs.YtmekechnnfhhkaaDoor.Aes
open Go.Sim
open Go.Proofs
variable {α : Type}

set_option maxRecDepth 1000000
theorem srt_run3 (z : Nat → Nat → Nat) : mapN (fun k => outZ [0, 25] srt5 (dir5 3 k) z) (fromN 24 0) = mapN (fun k => (cnd5 z 3 k, some out5)) (fromN 24 0) := by kernel_rfl
end Go.Proofs.YtmekechnnfhhkaaDoor.Aes

