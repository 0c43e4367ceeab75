/-
  The reference's Decrypt: its runs.
-/
import Derived.Test.YtcpafideogckmaaGreatDoorPc9
namespace Go.Proofs.YtcpafideogckmaaGreatDoor.Aes
noncomputable section
open Go.Sim
open Go.Proofs
open Go.RowKit
section
variable (X Y Z:Nat->BitVec 8) (n m1 n2 m2 n3 m3 o o2 o3:Nat)
theorem rdec1:mapN (rdxL X Y Z n m1 n2 m2 n3 m3 o o2 o3) (q6a 16 16)=mapN (rdxR X Y Z n n2 n3 o o2 o3) (q6a 16 16):=by kernel_rfl
theorem rdec2:mapN (rdxL X Y Z n m1 n2 m2 n3 m3 o o2 o3) (q6a 16 32)=mapN (rdxR X Y Z n n2 n3 o o2 o3) (q6a 16 32):=by kernel_rfl
theorem rdec3:mapN (rdxL X Y Z n m1 n2 m2 n3 m3 o o2 o3) (q6a 16 48)=mapN (rdxR X Y Z n n2 n3 o o2 o3) (q6a 16 48):=by kernel_rfl
theorem rdec4:mapN (rdxL X Y Z n m1 n2 m2 n3 m3 o o2 o3) (q6a 16 64)=mapN (rdxR X Y Z n n2 n3 o o2 o3) (q6a 16 64):=by kernel_rfl
theorem rdec5:mapN (rdxL X Y Z n m1 n2 m2 n3 m3 o o2 o3) (q6a 16 80)=mapN (rdxR X Y Z n n2 n3 o o2 o3) (q6a 16 80):=by kernel_rfl
theorem rdec6:mapN (rdxL X Y Z n m1 n2 m2 n3 m3 o o2 o3) (q6a 16 96)=mapN (rdxR X Y Z n n2 n3 o o2 o3) (q6a 16 96):=by kernel_rfl
theorem rdec7:mapN (rdxL X Y Z n m1 n2 m2 n3 m3 o o2 o3) (q6a 16 112)=mapN (rdxR X Y Z n n2 n3 o o2 o3) (q6a 16 112):=by kernel_rfl
theorem rdec8:mapN (rdxL X Y Z n m1 n2 m2 n3 m3 o o2 o3) (q6a 16 128)=mapN (rdxR X Y Z n n2 n3 o o2 o3) (q6a 16 128):=by kernel_rfl
end
end
end Go.Proofs.YtcpafideogckmaaGreatDoor.Aes
