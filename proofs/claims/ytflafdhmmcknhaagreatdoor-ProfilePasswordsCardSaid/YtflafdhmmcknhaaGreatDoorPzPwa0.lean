/-
  The reference's key block: keys of 0 to 15 bytes.
-/
import Derived.Test.YtflafdhmmcknhaaGreatDoorPp14
namespace Go.Proofs.YtflafdhmmcknhaaGreatDoor.Aes
open Go.Sim
open Go.Proofs
variable {α : Type}

set_option maxRecDepth 1000000
theorem rb_lits0 (F : HashF) (k : Sl) (x : BitVec 8) (m : Nat) : mapN (fun n => outO [5] (rbN F (k.pl m) n x) []) (fromN 16 0) = mapN (fun n => (need1 (fun i => k.o + i < k.N) n, some (rbV 5, [some (rbE (rbL k n x))]))) (fromN 16 0) := by kernel_rfl
end Go.Proofs.YtflafdhmmcknhaaGreatDoor.Aes

