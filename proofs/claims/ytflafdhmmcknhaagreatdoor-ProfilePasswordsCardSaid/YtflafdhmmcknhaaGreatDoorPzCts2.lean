/-
  Chained blocks, second part: the chain of blocks on lists; what a run of Encrypt comes to, for each number of blocks.
-/
import Derived.Test.YtflafdhmmcknhaaGreatDoorPp12
namespace Go.Proofs.YtflafdhmmcknhaaGreatDoor.Aes
open Go.Sim
open Go.Proofs
variable {α : Type}

abbrev Blk := List (BitVec 8)
/-- the chained blocks -/
noncomputable def chainL (ks : Nat → BitVec 8) (bs : List Blk) : Blk → List Blk := List.rec (motive := fun _ => Blk → List Blk) (fun _ => []) (fun b _ ih prev => encL ks (addL prev b) :: ih (encL ks (addL prev b))) bs
/-- the last two exchanged -/
noncomputable def swL (l : List Blk) : List Blk := List.rec (motive := fun _ => List Blk) [] (fun a r ih => List.rec (motive := fun _ => List Blk) [a] (fun b r' _ => List.rec (motive := fun _ => List Blk) [b, a] (fun _ _ _ => a :: ih) r') r) l
noncomputable def joinL (l : List Blk) : Blk := List.rec (motive := fun _ => Blk) [] (fun a _ ih => app a ih) l
/-- whole blocks of a row -/
noncomputable def fullB (Z : Nat → BitVec 8) (o : Nat) (n : Nat) : List Blk := mapN (fun i => block16 Z (o + 16 * i)) (fromN n 0)
noncomputable def cfgC2 : Cfg := cfgOf (sumsOf [(50, cloneS), (77, combS), (83, anewS), (86, cryptS encL), (76, cryptS decL), (88, mnzS)])
theorem cfgC2OK : CfgOK cfgC2 := sumsOf_ok (allC cloneOK (allC combOK (allC anewOK (allC encryptOK (allC decryptOK (all1 mnzOK))))))
/- Conditions. -/
noncomputable def startC (X Y : Nat → BitVec 8) (o n o2 n2 : Nat) (r : List Prop) : List Prop := IsB (byteF X) :: (o + 16 ≤ n) :: IsB (byteF Y) :: (o2 + 16 ≤ n2) :: r
/-- a whole block's conditions, where the number of bytes is known -/
noncomputable def blockC (Z : Nat → BitVec 8) (o3 n3 m3 : Nat) (i : Nat) (r : List Prop) : List Prop := (16 * i + 16 ≤ m3) :: IsB (byteF Z) :: (16 ≤ 16 ∧ o3 + 16 * i + 16 ≤ n3) :: (16 ≤ 16) :: (16 ≤ 16) :: r
/-- the same, where it is not known -/
noncomputable def blockP (Z : Nat → BitVec 8) (l o3 n3 m3 : Nat) (i : Nat) (r : List Prop) : List Prop := (decide (((16 * i : Nat) : Int) < (l : Int)) = true) :: (decide ((l : Int) < ((16 * i + 16 : Nat) : Int)) = false) :: blockC Z o3 n3 m3 i r
noncomputable def blocksC (f : Nat → List Prop → List Prop) (m : Nat) : Nat → List Prop → List Prop := Nat.rec (motive := fun _ => Nat → List Prop → List Prop) (fun _ r => r) (fun _ ih i r => f i (ih (Nat.succ i) r)) m
/-- how many zeros fill the last block -/
def padN (l k : Nat) : Nat := (16 - ((l - k : Nat) : Int)).toNat
/-- the last block, which is not whole -/
noncomputable def lastW (Z : Nat → BitVec 8) (l o3 k : Nat) : Nat → BitVec 8 := catB (fun i => Z (o3 + k + i)) (l - k) fun i => ((zeroStr (padN l k)).data.getD i 0).toBitVec
noncomputable def cutC (Z : Nat → BitVec 8) (l o3 n3 m3 k : Nat) (r : List Prop) : List Prop :=
  (decide ((k : Int) < (l : Int)) = true) :: (decide ((l : Int) < ((k + 16 : Nat) : Int)) = true) :: (0 ≤ (l : Int) ∧ (l : Int) ≤ (m3 : Int)) :: (0 ≤ (l : Int) ∧ (l : Int) ≤ (l : Int)) :: (k ≤ l) :: (decide (l = k) = false) :: (decide (((l - k : Nat) : Int) < 16) = true)
  :: inI64 (16 - ((l - k : Nat) : Int)) :: (0 ≤ 16 - ((l - k : Nat) : Int) ∧ roomy (l - k + padN l k) 1) :: (o3 + k + (l - k) ≤ n3 ∧ IsB (byteF Z)) :: (l - k < l - k + (zeroStr (padN l k)).size ∧ roomy (l - k + (zeroStr (padN l k)).size) 1 ∧ 1 = 1) :: r
noncomputable def lastC (Z : Nat → BitVec 8) (l o3 n3 m3 k : Nat) (r : List Prop) : List Prop :=
  cutC Z l o3 n3 m3 k (((((l - k + (zeroStr (padN l k)).size : Nat) : Int) != 16) = false) :: (decide (l - k + (zeroStr (padN l k)).size = 16) = true) :: IsB (byteF (lastW Z l o3 k)) :: (16 ≤ 16 ∧ 16 ≤ l - k + (zeroStr (padN l k)).size) :: (16 ≤ 16) :: (16 ≤ 16) :: (decide (((k + 16 : Nat) : Int) < (l : Int)) = false) :: r)
noncomputable def encJ (X Y : Nat → BitVec 8) (o o2 : Nat) (bs : List Blk) : Blk := joinL (swL (chainL (byteAt (keysL (block16 X o))) bs (block16 Y o2)))
noncomputable def argsC (m1 m2 m3 o o2 o3 : Nat) (l : SN) : List SV := [.slice ⟨0, .sym o⟩ (.lit 16) (.sym m1), .slice ⟨1, .sym o2⟩ (.lit 16) (.sym m2), .slice ⟨2, .sym o3⟩ l (.sym m3)]
noncomputable def entsC (X Y Z : Nat → BitVec 8) (n n2 n3 : Nat) : List SO := [rowF X n, rowF Y n2, rowF Z n3]
noncomputable def pairR (nm : Nat) (l : SN) : SV := .tuple [.slice ⟨nm, .lit 0⟩ l (.rest nm 0), .int .i64 (.lit (.ofNat 0))]
/-- all blocks are whole -/
noncomputable def encFL (m : Nat) (X Y Z : Nat → BitVec 8) (n m1 n2 m2 n3 m3 o o2 o3 : Nat) (z : Nat → Nat → Nat) : List Prop × Option (SV × List (Option SO)) :=
  outZ [Nat.add 21 (Nat.mul 6 m)] (callSim cfgC2 20000 54 (argsC m1 m2 m3 o o2 o3 (.lit (Nat.mul 16 m))) (entsC X Y Z n n2 n3)) [] z
noncomputable def encFP (m : Nat) (X Y Z : Nat → BitVec 8) (n n2 n3 m3 o o2 o3 : Nat) : List Prop := startC X Y o n o2 n2 (startC X Y o n o2 n2 (blocksC (blockC Z o3 n3 m3) m 0 [16 * m ≤ 16 * m]))
noncomputable def encFR (m : Nat) (X Y Z : Nat → BitVec 8) (n n2 n3 m3 o o2 o3 : Nat) : List Prop × Option (SV × List (Option SO)) :=
  (encFP m X Y Z n n2 n3 m3 o o2 o3, some (pairR (21 + 6 * m) (.lit (Nat.mul 16 m)), [some (.own (.lst (bx (encJ X Y o o2 (fullB Z o3 m)))) false 5)]))
/-- the ways through the last block, behind m whole ones -/
noncomputable def dirsL (e : List Bool) (m : Nat) : List Bool := Nat.rec (motive := fun _ => List Bool) e (fun _ ih => true :: false :: ih) m
/-- m whole blocks, and one that is not -/
noncomputable def encPL (m : Nat) (X Y Z : Nat → BitVec 8) (n m1 n2 m2 n3 m3 l o o2 o3 : Nat) (z : Nat → Nat → Nat) : List Prop × Option (SV × List (Option SO)) :=
  outZ [Nat.add 28 (Nat.mul 6 m)] (callSim cfgC2 20000 54 (argsC m1 m2 m3 o o2 o3 (.sym l)) (entsC X Y Z n n2 n3)) (false :: false :: dirsL [true, true, false, true, false, true, false, false] m) z
noncomputable def encPP (m : Nat) (X Y Z : Nat → BitVec 8) (n n2 n3 m3 l o o2 o3 : Nat) : List Prop :=
  startC X Y o n o2 n2 ((decide ((l : Int) < 16) = false) :: (decide ((l : Int) > 131072) = false) :: startC X Y o n o2 n2 (blocksC (blockP Z l o3 n3 m3) m 0 (lastC Z l o3 n3 m3 (16 * m) [0 ≤ (l : Int) ∧ (l : Int) ≤ ((16 * m + 16 : Nat) : Int), decide (l = 0) = false, 0 + l ≤ 16 * m + 16 ∧ roomy l 1])))
noncomputable def encPR (m : Nat) (X Y Z : Nat → BitVec 8) (n n2 n3 m3 l o o2 o3 : Nat) : List Prop × Option (SV × List (Option SO)) :=
  (encPP m X Y Z n n2 n3 m3 l o o2 o3, some (pairR (28 + 6 * m) (.sym l), [some (.own (.fn (fun i => byteF (byteAt (encJ X Y o o2 (app (fullB Z o3 m) [block16 (lastW Z l o3 (16 * m)) 0]))) (0 + i)) l) false 5)]))
section
variable (X Y Z : Nat → BitVec 8) (n m1 n2 m2 n3 m3 l o o2 o3 : Nat) (z : Nat → Nat → Nat)
theorem encF1 : encFL 1 X Y Z n m1 n2 m2 n3 m3 o o2 o3 z = encFR 1 X Y Z n n2 n3 m3 o o2 o3 := by kernel_rfl
theorem encF2 : encFL 2 X Y Z n m1 n2 m2 n3 m3 o o2 o3 z = encFR 2 X Y Z n n2 n3 m3 o o2 o3 := by kernel_rfl
theorem encF3 : encFL 3 X Y Z n m1 n2 m2 n3 m3 o o2 o3 z = encFR 3 X Y Z n n2 n3 m3 o o2 o3 := by kernel_rfl
theorem encF4 : encFL 4 X Y Z n m1 n2 m2 n3 m3 o o2 o3 z = encFR 4 X Y Z n n2 n3 m3 o o2 o3 := by kernel_rfl
theorem encF5 : encFL 5 X Y Z n m1 n2 m2 n3 m3 o o2 o3 z = encFR 5 X Y Z n n2 n3 m3 o o2 o3 := by kernel_rfl
theorem encF6 : encFL 6 X Y Z n m1 n2 m2 n3 m3 o o2 o3 z = encFR 6 X Y Z n n2 n3 m3 o o2 o3 := by kernel_rfl
theorem encF7 : encFL 7 X Y Z n m1 n2 m2 n3 m3 o o2 o3 z = encFR 7 X Y Z n n2 n3 m3 o o2 o3 := by kernel_rfl
theorem encF8 : encFL 8 X Y Z n m1 n2 m2 n3 m3 o o2 o3 z = encFR 8 X Y Z n n2 n3 m3 o o2 o3 := by kernel_rfl
theorem encF9 : encFL 9 X Y Z n m1 n2 m2 n3 m3 o o2 o3 z = encFR 9 X Y Z n n2 n3 m3 o o2 o3 := by kernel_rfl
theorem encF10 : encFL 10 X Y Z n m1 n2 m2 n3 m3 o o2 o3 z = encFR 10 X Y Z n n2 n3 m3 o o2 o3 := by kernel_rfl
theorem encF11 : encFL 11 X Y Z n m1 n2 m2 n3 m3 o o2 o3 z = encFR 11 X Y Z n n2 n3 m3 o o2 o3 := by kernel_rfl
theorem encF12 : encFL 12 X Y Z n m1 n2 m2 n3 m3 o o2 o3 z = encFR 12 X Y Z n n2 n3 m3 o o2 o3 := by kernel_rfl
theorem encF13 : encFL 13 X Y Z n m1 n2 m2 n3 m3 o o2 o3 z = encFR 13 X Y Z n n2 n3 m3 o o2 o3 := by kernel_rfl
theorem encF14 : encFL 14 X Y Z n m1 n2 m2 n3 m3 o o2 o3 z = encFR 14 X Y Z n n2 n3 m3 o o2 o3 := by kernel_rfl
theorem encP1 : encPL 1 X Y Z n m1 n2 m2 n3 m3 l o o2 o3 z = encPR 1 X Y Z n n2 n3 m3 l o o2 o3 := by kernel_rfl
theorem encP2 : encPL 2 X Y Z n m1 n2 m2 n3 m3 l o o2 o3 z = encPR 2 X Y Z n n2 n3 m3 l o o2 o3 := by kernel_rfl
theorem encP3 : encPL 3 X Y Z n m1 n2 m2 n3 m3 l o o2 o3 z = encPR 3 X Y Z n n2 n3 m3 l o o2 o3 := by kernel_rfl
theorem encP4 : encPL 4 X Y Z n m1 n2 m2 n3 m3 l o o2 o3 z = encPR 4 X Y Z n n2 n3 m3 l o o2 o3 := by kernel_rfl
theorem encP5 : encPL 5 X Y Z n m1 n2 m2 n3 m3 l o o2 o3 z = encPR 5 X Y Z n n2 n3 m3 l o o2 o3 := by kernel_rfl
theorem encP6 : encPL 6 X Y Z n m1 n2 m2 n3 m3 l o o2 o3 z = encPR 6 X Y Z n n2 n3 m3 l o o2 o3 := by kernel_rfl
theorem encP7 : encPL 7 X Y Z n m1 n2 m2 n3 m3 l o o2 o3 z = encPR 7 X Y Z n n2 n3 m3 l o o2 o3 := by kernel_rfl
theorem encP8 : encPL 8 X Y Z n m1 n2 m2 n3 m3 l o o2 o3 z = encPR 8 X Y Z n n2 n3 m3 l o o2 o3 := by kernel_rfl
theorem encP9 : encPL 9 X Y Z n m1 n2 m2 n3 m3 l o o2 o3 z = encPR 9 X Y Z n n2 n3 m3 l o o2 o3 := by kernel_rfl
theorem encP10 : encPL 10 X Y Z n m1 n2 m2 n3 m3 l o o2 o3 z = encPR 10 X Y Z n n2 n3 m3 l o o2 o3 := by kernel_rfl
theorem encP11 : encPL 11 X Y Z n m1 n2 m2 n3 m3 l o o2 o3 z = encPR 11 X Y Z n n2 n3 m3 l o o2 o3 := by kernel_rfl
theorem encP12 : encPL 12 X Y Z n m1 n2 m2 n3 m3 l o o2 o3 z = encPR 12 X Y Z n n2 n3 m3 l o o2 o3 := by kernel_rfl
theorem encP13 : encPL 13 X Y Z n m1 n2 m2 n3 m3 l o o2 o3 z = encPR 13 X Y Z n n2 n3 m3 l o o2 o3 := by kernel_rfl
end

end Go.Proofs.YtflafdhmmcknhaaGreatDoor.Aes

