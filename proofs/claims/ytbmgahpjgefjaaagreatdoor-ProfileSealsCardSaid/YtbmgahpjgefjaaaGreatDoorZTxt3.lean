/-
  The reference's Encrypt and Decrypt, for every number of bytes from 16 to 224.
-/
import Derived.Test.YtbmgahpjgefjaaaGreatDoorPk8
namespace Go.Proofs.YtbmgahpjgefjaaaGreatDoor.Aes
open Go.Sim
open Go.Proofs
open Go.RowKit
variable {α:Type}
set_option maxRecDepth 1000000
noncomputable def oneB (b:Bool):Nat:=boolC b 1 0
noncomputable def qqw (l:Nat):Nat:=boolC (Nat.beq l 16) 6 (Nat.add 9 (Nat.add (Nat.mul 2 (Nat.sub (Nat.mul 16 (numB l)) l)) (oneB (Nat.ble 3 (numB l)))))
noncomputable def jik (X Y:Nat→BitVec 8) (n n2 n3 o o2 o3 l:Nat):List Prop:=[o3+l≤n3,IsB (qea X),IsB (qea Y),o+16≤n∧o2+16≤n2,0+16 * numB l≤16 * numB l∧chOk (16 * numB l)=true]
noncomputable def qrw (l:Nat):Nat:=boolC (Nat.beq l 16) 6 (Nat.add 16 (Nat.add (Nat.mul 3 (Nat.sub (numB l) 2)) (Nat.add (boolC (Nat.beq (Nat.mod l 16) 0) 0 1) (oneB (Nat.ble 3 (numB l))))))
noncomputable def dcp (l:Nat):Bool:=Nat.beq l 16
section
variable (X Y Z:Nat→BitVec 8) (n m1 n2 m2 n3 m3 o o2 o3:Nat)
noncomputable def qng (l:Nat):List Prop × Option (SV × List (Option SO)):=outO [qqw l] (qba qt8 20000 42 (qyg m1 m2 m3 o o2 o3 l) (qzg X Y Z n n2 n3)) []
noncomputable def qog (l:Nat):List Prop × Option (SV × List (Option SO)):=(jik X Y n n2 n3 o o2 o3 l,some (.slice ⟨qqw l,.lit 0⟩ (.lit l) (.rest (qqw l) 0),[some (.own (.lst (bx (encF (qha X o) (qha Y o2) (fun j=>Z (o3+j)) l))) false 5)]))
theorem renc1:mapN (qng X Y Z n m1 n2 m2 n3 m3 o o2 o3) (qka 16 16)=mapN (qog X Y Z n n2 n3 o o2 o3) (qka 16 16):=by kernel_rfl
theorem renc2:mapN (qng X Y Z n m1 n2 m2 n3 m3 o o2 o3) (qka 16 32)=mapN (qog X Y Z n n2 n3 o o2 o3) (qka 16 32):=by kernel_rfl
theorem renc3:mapN (qng X Y Z n m1 n2 m2 n3 m3 o o2 o3) (qka 16 48)=mapN (qog X Y Z n n2 n3 o o2 o3) (qka 16 48):=by kernel_rfl
theorem renc4:mapN (qng X Y Z n m1 n2 m2 n3 m3 o o2 o3) (qka 16 64)=mapN (qog X Y Z n n2 n3 o o2 o3) (qka 16 64):=by kernel_rfl
theorem renc5:mapN (qng X Y Z n m1 n2 m2 n3 m3 o o2 o3) (qka 16 80)=mapN (qog X Y Z n n2 n3 o o2 o3) (qka 16 80):=by kernel_rfl
theorem renc6:mapN (qng X Y Z n m1 n2 m2 n3 m3 o o2 o3) (qka 16 96)=mapN (qog X Y Z n n2 n3 o o2 o3) (qka 16 96):=by kernel_rfl
theorem renc7:mapN (qng X Y Z n m1 n2 m2 n3 m3 o o2 o3) (qka 16 112)=mapN (qog X Y Z n n2 n3 o o2 o3) (qka 16 112):=by kernel_rfl
theorem renc8:mapN (qng X Y Z n m1 n2 m2 n3 m3 o o2 o3) (qka 16 128)=mapN (qog X Y Z n n2 n3 o o2 o3) (qka 16 128):=by kernel_rfl
theorem renc9:mapN (qng X Y Z n m1 n2 m2 n3 m3 o o2 o3) (qka 16 144)=mapN (qog X Y Z n n2 n3 o o2 o3) (qka 16 144):=by kernel_rfl
theorem j3r:mapN (qng X Y Z n m1 n2 m2 n3 m3 o o2 o3) (qka 16 160)=mapN (qog X Y Z n n2 n3 o o2 o3) (qka 16 160):=by kernel_rfl
theorem j4r:mapN (qng X Y Z n m1 n2 m2 n3 m3 o o2 o3) (qka 16 176)=mapN (qog X Y Z n n2 n3 o o2 o3) (qka 16 176):=by kernel_rfl
theorem j5r:mapN (qng X Y Z n m1 n2 m2 n3 m3 o o2 o3) (qka 16 192)=mapN (qog X Y Z n n2 n3 o o2 o3) (qka 16 192):=by kernel_rfl
theorem j6r:mapN (qng X Y Z n m1 n2 m2 n3 m3 o o2 o3) (qka 16 208)=mapN (qog X Y Z n n2 n3 o o2 o3) (qka 16 208):=by kernel_rfl
theorem j7r:qng X Y Z n m1 n2 m2 n3 m3 o o2 o3 224=qog X Y Z n n2 n3 o o2 o3 224:=by kernel_rfl
theorem jkg {l:Nat} (h:16≤l) (h2:l≤224):qng X Y Z n m1 n2 m2 n3 m3 o o2 o3 l=qog X Y Z n n2 n3 o o2 o3 l:=by
  have hm:(16≤l∧l<16+16)∨(32≤l∧l<32+16)∨(48≤l∧l<48+16)∨(64≤l∧l<64+16)∨(80≤l∧l<80+16)∨(96≤l∧l<96+16)∨(112≤l∧l<112+16)∨(128≤l∧l<128+16)∨(144≤l∧l<144+16)∨(160≤l∧l<160+16)∨(176≤l∧l<176+16)∨(192≤l∧l<192+16)∨(208≤l∧l<208+16)∨l=224:=by omega
  rcases hm with ⟨h1,h2⟩ | ⟨h1,h2⟩ | ⟨h1,h2⟩ | ⟨h1,h2⟩ | ⟨h1,h2⟩ | ⟨h1,h2⟩ | ⟨h1,h2⟩ | ⟨h1,h2⟩ | ⟨h1,h2⟩ | ⟨h1,h2⟩ | ⟨h1,h2⟩ | ⟨h1,h2⟩ | ⟨h1,h2⟩ | rfl
  · exact q4b (renc1 X Y Z n m1 n2 m2 n3 m3 o o2 o3) h1 h2
  · exact q4b (renc2 X Y Z n m1 n2 m2 n3 m3 o o2 o3) h1 h2
  · exact q4b (renc3 X Y Z n m1 n2 m2 n3 m3 o o2 o3) h1 h2
  · exact q4b (renc4 X Y Z n m1 n2 m2 n3 m3 o o2 o3) h1 h2
  · exact q4b (renc5 X Y Z n m1 n2 m2 n3 m3 o o2 o3) h1 h2
  · exact q4b (renc6 X Y Z n m1 n2 m2 n3 m3 o o2 o3) h1 h2
  · exact q4b (renc7 X Y Z n m1 n2 m2 n3 m3 o o2 o3) h1 h2
  · exact q4b (renc8 X Y Z n m1 n2 m2 n3 m3 o o2 o3) h1 h2
  · exact q4b (renc9 X Y Z n m1 n2 m2 n3 m3 o o2 o3) h1 h2
  · exact q4b (j3r X Y Z n m1 n2 m2 n3 m3 o o2 o3) h1 h2
  · exact q4b (j4r X Y Z n m1 n2 m2 n3 m3 o o2 o3) h1 h2
  · exact q4b (j5r X Y Z n m1 n2 m2 n3 m3 o o2 o3) h1 h2
  · exact q4b (j6r X Y Z n m1 n2 m2 n3 m3 o o2 o3) h1 h2
  · exact j7r X Y Z n m1 n2 m2 n3 m3 o o2 o3
end
end Go.Proofs.YtbmgahpjgefjaaaGreatDoor.Aes
