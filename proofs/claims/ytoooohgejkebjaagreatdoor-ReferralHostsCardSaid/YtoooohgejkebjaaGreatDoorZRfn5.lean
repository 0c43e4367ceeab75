/-
  Referrals: the chapter's examples hold.
-/
import Derived.Test.YtoooohgejkebjaaGreatDoorPk9
namespace Go.Proofs.YtoooohgejkebjaaGreatDoor.Aes
open Go.Sim
open Go.Proofs
variable {α : Type}

set_option maxRecDepth 1000000
theorem kn37_run : fstO (detT (callSim cfgF6 30000 5 [] [])) = some (.bool (.lit true)) := by kernel_rfl
theorem kn37OK : SumOK Tryz.prog 5 trueS := exOf cfgF6OK kn37_run
end Go.Proofs.YtoooohgejkebjaaGreatDoor.Aes

