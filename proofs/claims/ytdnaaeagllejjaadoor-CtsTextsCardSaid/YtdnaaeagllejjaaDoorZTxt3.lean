/-
  The reference's Encrypt and Decrypt, for every number of bytes from 16 to 224.
-/
import Derived.Test.YtdnaaeagllejjaaDoorPk8
namespace Go.Proofs.YtdnaaeagllejjaaDoor.Aes
open Go.Sim
open Go.Proofs
open Go.RowKit
variable {α : Type}

noncomputable def oneB (b : Bool) : Nat := boolC b 1 0
noncomputable def rencI (l : Nat) : Nat := boolC (Nat.beq l 16) 6 (Nat.add 9 (Nat.add (Nat.mul 2 (Nat.sub (Nat.mul 16 (numB l)) l)) (oneB (Nat.ble 3 (numB l)))))
noncomputable def rencC (X Y : Nat → BitVec 8) (n n2 n3 o o2 o3 l : Nat) : List Prop := [o3 + l ≤ n3, IsB (byteF X), IsB (byteF Y), o + 16 ≤ n ∧ o2 + 16 ≤ n2, 0 + 16 * numB l ≤ 16 * numB l ∧ chOk (16 * numB l) = true]
noncomputable def rdecI (l : Nat) : Nat := boolC (Nat.beq l 16) 6 (Nat.add 16 (Nat.add (Nat.mul 3 (Nat.sub (numB l) 2)) (Nat.add (boolC (Nat.beq (Nat.mod l 16) 0) 0 1) (oneB (Nat.ble 3 (numB l))))))
noncomputable def rdecN (w : Nat) (m : Nat) : Nat → List Prop := Nat.rec (motive := fun _ => Nat → List Prop) (fun _ => []) (fun _ ih i => (16 * i ≤ w ∧ 176 ≤ 176) :: ih (i + 1)) m
noncomputable def rdecM (X Z : Nat → BitVec 8) (n n2 n3 o o2 o3 l w : Nat) : List Prop :=
  IsB (byteF X) :: (o + 16 ≤ n) :: IsB (byteF Z) :: (o3 + (w - 32) + 16 ≤ n3 ∧ 176 ≤ 176) :: (o3 + (w - 16) + (l - (w - 16)) ≤ n3) :: (o3 + (w - 32) ≤ n3) :: (o3 + (w - 32) + 16 ≤ n3) :: (16 ≤ w ∧ 176 ≤ 176) :: b16C o2 n2 fun _ => rdecN w (Nat.sub (Nat.div w 16) 1) 2
noncomputable def rdecC (X Z : Nat → BitVec 8) (n n2 n3 o o2 o3 l : Nat) : List Prop := boolC (Nat.beq l 16) (IsB (byteF X) :: (o + 16 ≤ n) :: IsB (byteF Z) :: (o3 + 16 ≤ n3 ∧ 176 ≤ 176) :: b16C o2 n2 fun _ => []) (rdecM X Z n n2 n3 o o2 o3 l (Nat.mul 16 (numB l)))
noncomputable def dcp (l : Nat) : Bool := Nat.beq l 16
section
variable (X Y Z : Nat → BitVec 8) (n m1 n2 m2 n3 m3 o o2 o3 : Nat)
noncomputable def rencL (l : Nat) : List Prop × Option (SV × List (Option SO)) := outO [rencI l] (callSim cfgRE 20000 11 (args3R m1 m2 m3 o o2 o3 l) (ents3R X Y Z n n2 n3)) []
noncomputable def rencR (l : Nat) : List Prop × Option (SV × List (Option SO)) := (rencC X Y n n2 n3 o o2 o3 l, some (.slice ⟨rencI l, .lit 0⟩ (.lit l) (.rest (rencI l) 0), [some (.own (.lst (bx (encF (block16 X o) (block16 Y o2) (fun j => Z (o3 + j)) l))) false 5)]))
noncomputable def rdecL (l : Nat) : List Prop × Option (SV × List (Option SO)) := outO [rdecI l] (callSim cfgRE 20000 12 (args3R m1 m2 m3 o o2 o3 l) (ents3R X Y Z n n2 n3)) []
noncomputable def rdecR (l : Nat) : List Prop × Option (SV × List (Option SO)) := (rdecC X Z n n2 n3 o o2 o3 l, some (.slice ⟨rdecI l, .lit 0⟩ (.lit l) (capR (dcp l) (rdecI l) l), [some (.own (.lst (bx (decF (block16 X o) (block16 Y o2) (fun j => Z (o3 + j)) l))) (dcp l) 5)]))
theorem renc1 : mapN (rencL X Y Z n m1 n2 m2 n3 m3 o o2 o3) (fromN 16 16) = mapN (rencR X Y Z n n2 n3 o o2 o3) (fromN 16 16) := by kernel_rfl
theorem renc2 : mapN (rencL X Y Z n m1 n2 m2 n3 m3 o o2 o3) (fromN 16 32) = mapN (rencR X Y Z n n2 n3 o o2 o3) (fromN 16 32) := by kernel_rfl
theorem renc3 : mapN (rencL X Y Z n m1 n2 m2 n3 m3 o o2 o3) (fromN 16 48) = mapN (rencR X Y Z n n2 n3 o o2 o3) (fromN 16 48) := by kernel_rfl
theorem renc4 : mapN (rencL X Y Z n m1 n2 m2 n3 m3 o o2 o3) (fromN 16 64) = mapN (rencR X Y Z n n2 n3 o o2 o3) (fromN 16 64) := by kernel_rfl
theorem renc5 : mapN (rencL X Y Z n m1 n2 m2 n3 m3 o o2 o3) (fromN 16 80) = mapN (rencR X Y Z n n2 n3 o o2 o3) (fromN 16 80) := by kernel_rfl
theorem renc6 : mapN (rencL X Y Z n m1 n2 m2 n3 m3 o o2 o3) (fromN 16 96) = mapN (rencR X Y Z n n2 n3 o o2 o3) (fromN 16 96) := by kernel_rfl
theorem renc7 : mapN (rencL X Y Z n m1 n2 m2 n3 m3 o o2 o3) (fromN 16 112) = mapN (rencR X Y Z n n2 n3 o o2 o3) (fromN 16 112) := by kernel_rfl
theorem renc8 : mapN (rencL X Y Z n m1 n2 m2 n3 m3 o o2 o3) (fromN 16 128) = mapN (rencR X Y Z n n2 n3 o o2 o3) (fromN 16 128) := by kernel_rfl
theorem renc9 : mapN (rencL X Y Z n m1 n2 m2 n3 m3 o o2 o3) (fromN 16 144) = mapN (rencR X Y Z n n2 n3 o o2 o3) (fromN 16 144) := by kernel_rfl
theorem renc10 : mapN (rencL X Y Z n m1 n2 m2 n3 m3 o o2 o3) (fromN 16 160) = mapN (rencR X Y Z n n2 n3 o o2 o3) (fromN 16 160) := by kernel_rfl
theorem renc11 : mapN (rencL X Y Z n m1 n2 m2 n3 m3 o o2 o3) (fromN 16 176) = mapN (rencR X Y Z n n2 n3 o o2 o3) (fromN 16 176) := by kernel_rfl
theorem renc12 : mapN (rencL X Y Z n m1 n2 m2 n3 m3 o o2 o3) (fromN 16 192) = mapN (rencR X Y Z n n2 n3 o o2 o3) (fromN 16 192) := by kernel_rfl
theorem renc13 : mapN (rencL X Y Z n m1 n2 m2 n3 m3 o o2 o3) (fromN 16 208) = mapN (rencR X Y Z n n2 n3 o o2 o3) (fromN 16 208) := by kernel_rfl
theorem renc14 : rencL X Y Z n m1 n2 m2 n3 m3 o o2 o3 224 = rencR X Y Z n n2 n3 o o2 o3 224 := by kernel_rfl
theorem renc_all {l : Nat} (h : 16 ≤ l) (h2 : l ≤ 224) : rencL X Y Z n m1 n2 m2 n3 m3 o o2 o3 l = rencR X Y Z n n2 n3 o o2 o3 l := by
  have hm : (16 ≤ l ∧ l < 16 + 16) ∨ (32 ≤ l ∧ l < 32 + 16) ∨ (48 ≤ l ∧ l < 48 + 16) ∨ (64 ≤ l ∧ l < 64 + 16) ∨ (80 ≤ l ∧ l < 80 + 16) ∨ (96 ≤ l ∧ l < 96 + 16) ∨ (112 ≤ l ∧ l < 112 + 16) ∨ (128 ≤ l ∧ l < 128 + 16) ∨ (144 ≤ l ∧ l < 144 + 16) ∨ (160 ≤ l ∧ l < 160 + 16) ∨ (176 ≤ l ∧ l < 176 + 16) ∨ (192 ≤ l ∧ l < 192 + 16) ∨ (208 ≤ l ∧ l < 208 + 16) ∨ l = 224 := by omega
  rcases hm with ⟨h1, h2⟩ | ⟨h1, h2⟩ | ⟨h1, h2⟩ | ⟨h1, h2⟩ | ⟨h1, h2⟩ | ⟨h1, h2⟩ | ⟨h1, h2⟩ | ⟨h1, h2⟩ | ⟨h1, h2⟩ | ⟨h1, h2⟩ | ⟨h1, h2⟩ | ⟨h1, h2⟩ | ⟨h1, h2⟩ | rfl
  · exact mapN_at (renc1 X Y Z n m1 n2 m2 n3 m3 o o2 o3) h1 h2
  · exact mapN_at (renc2 X Y Z n m1 n2 m2 n3 m3 o o2 o3) h1 h2
  · exact mapN_at (renc3 X Y Z n m1 n2 m2 n3 m3 o o2 o3) h1 h2
  · exact mapN_at (renc4 X Y Z n m1 n2 m2 n3 m3 o o2 o3) h1 h2
  · exact mapN_at (renc5 X Y Z n m1 n2 m2 n3 m3 o o2 o3) h1 h2
  · exact mapN_at (renc6 X Y Z n m1 n2 m2 n3 m3 o o2 o3) h1 h2
  · exact mapN_at (renc7 X Y Z n m1 n2 m2 n3 m3 o o2 o3) h1 h2
  · exact mapN_at (renc8 X Y Z n m1 n2 m2 n3 m3 o o2 o3) h1 h2
  · exact mapN_at (renc9 X Y Z n m1 n2 m2 n3 m3 o o2 o3) h1 h2
  · exact mapN_at (renc10 X Y Z n m1 n2 m2 n3 m3 o o2 o3) h1 h2
  · exact mapN_at (renc11 X Y Z n m1 n2 m2 n3 m3 o o2 o3) h1 h2
  · exact mapN_at (renc12 X Y Z n m1 n2 m2 n3 m3 o o2 o3) h1 h2
  · exact mapN_at (renc13 X Y Z n m1 n2 m2 n3 m3 o o2 o3) h1 h2
  · exact renc14 X Y Z n m1 n2 m2 n3 m3 o o2 o3
end

end Go.Proofs.YtdnaaeagllejjaaDoor.Aes

