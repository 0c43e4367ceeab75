/-
  The reference's Decrypt: its runs.
-/
import Derived.Test.YtcpafideogckmaaGreatDoorPc9
namespace Go.Proofs.YtcpafideogckmaaGreatDoor.Aes
noncomputable section
open Go.Sim
open Go.Proofs
open Go.RowKit
section
variable (X Y Z:Nat->BitVec 8) (n m1 n2 m2 n3 m3 o o2 o3:Nat)
theorem rdec9:mapN (rdxL X Y Z n m1 n2 m2 n3 m3 o o2 o3) (q6a 16 144)=mapN (rdxR X Y Z n n2 n3 o o2 o3) (q6a 16 144):=by kernel_rfl
theorem jvt:mapN (rdxL X Y Z n m1 n2 m2 n3 m3 o o2 o3) (q6a 16 160)=mapN (rdxR X Y Z n n2 n3 o o2 o3) (q6a 16 160):=by kernel_rfl
theorem jwt:mapN (rdxL X Y Z n m1 n2 m2 n3 m3 o o2 o3) (q6a 16 176)=mapN (rdxR X Y Z n n2 n3 o o2 o3) (q6a 16 176):=by kernel_rfl
end
end
end Go.Proofs.YtcpafideogckmaaGreatDoor.Aes
