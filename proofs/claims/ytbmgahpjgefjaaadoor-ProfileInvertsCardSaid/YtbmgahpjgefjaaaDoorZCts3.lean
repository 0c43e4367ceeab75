/-
  Chained blocks, third part: what a run of Decrypt comes to, for each number of blocks.
-/
import Derived.Test.YtbmgahpjgefjaaaDoorZCts2
namespace Go.Proofs.YtbmgahpjgefjaaaDoor.Aes
open Go.Sim
open Go.Proofs
variable {α : Type}

/-- blocks out of chained blocks -/
noncomputable def unchainL (ks : Nat → BitVec 8) (bs : List Blk) : Blk → List Blk := List.rec (motive := fun _ => Blk → List Blk) (fun _ => []) (fun b _ ih prev => addL (decL ks b) prev :: ih b) bs
noncomputable def decJ (X Y : Nat → BitVec 8) (o o2 : Nat) (bs : List Blk) : Blk := joinL (unchainL (byteAt (keysL (block16 X o))) bs (block16 Y o2))
/-- a block of the text at place k is decrypted -/
noncomputable def seenB (Z : Nat → BitVec 8) (o3 n3 k : Nat) (r : List Prop) : List Prop := IsB (byteF Z) :: (o3 + k + 16 ≤ n3) :: r
/-- it is what the next one is combined with -/
noncomputable def prevB (Z : Nat → BitVec 8) (o3 n3 k : Nat) (r : List Prop) : List Prop := IsB (byteF Z) :: (16 ≤ 16 ∧ o3 + k + 16 ≤ n3) :: r
noncomputable def firstB (Z : Nat → BitVec 8) (o3 n3 k : Nat) (r : List Prop) : List Prop := seenB Z o3 n3 k ((16 ≤ 16 ∧ 16 ≤ 16) :: r)
noncomputable def nextB (Z : Nat → BitVec 8) (o3 n3 k k' : Nat) (r : List Prop) : List Prop := seenB Z o3 n3 k' (prevB Z o3 n3 k r)
/-- n blocks from the first on -/
noncomputable def runB (Z : Nat → BitVec 8) (o3 n3 n : Nat) (r : List Prop) : List Prop := Nat.rec (motive := fun _ => List Prop) r (fun j _ => firstB Z o3 n3 0 (Nat.rec (motive := fun _ => Nat → List Prop) (fun _ => r) (fun _ ih i => nextB Z o3 n3 (16 * i) (16 * Nat.succ i) (ih (Nat.succ i))) j 0)) n
noncomputable def roomB (m3 i : Nat) (r : List Prop) : List Prop := (16 * i + 16 ≤ m3) :: r
noncomputable def roomP (m3 l i : Nat) (r : List Prop) : List Prop := (decide (((16 * i : Nat) : Int) < (l : Int)) = true) :: (decide ((l : Int) < ((16 * i + 16 : Nat) : Int)) = false) :: (16 * i + 16 ≤ m3) :: r
/-- all blocks are whole: m + 2 of them -/
noncomputable def decFP (m : Nat) (X Y Z : Nat → BitVec 8) (n n2 n3 m3 o o2 o3 : Nat) : List Prop :=
  startC X Y o n o2 n2 (blocksC (roomB m3) (m + 2) 0 (seenB Z o3 n3 (16 * m) (runB Z o3 n3 m (Nat.rec (motive := fun _ => List Prop → List Prop) (firstB Z o3 n3 16) (fun j _ => nextB Z o3 n3 (16 * j) (16 * j + 32)) m (nextB Z o3 n3 (16 * m + 16) (16 * m) [16 * m + 32 ≤ 16 * m + 32])))))
noncomputable def decFL (m : Nat) (X Y Z : Nat → BitVec 8) (n m1 n2 m2 n3 m3 o o2 o3 : Nat) (z : Nat → Nat → Nat) : List Prop × Option (SV × List (Option SO)) :=
  outZ [26 + 6 * m] (callSim cfgC2 20000 46 (argsC m1 m2 m3 o o2 o3 (.lit (16 * m + 32))) (entsC X Y Z n n2 n3)) [] z
noncomputable def decFR (m : Nat) (X Y Z : Nat → BitVec 8) (n n2 n3 m3 o o2 o3 : Nat) : List Prop × Option (SV × List (Option SO)) :=
  (decFP m X Y Z n n2 n3 m3 o o2 o3, some (pairR (26 + 6 * m) (.lit (16 * m + 32)), [some (.own (.lst (bx (decJ X Y o o2 (swL (fullB Z o3 (m + 2)))))) false 5)]))
/-- one block -/
noncomputable def dec1L (X Y Z : Nat → BitVec 8) (n m1 n2 m2 n3 m3 o o2 o3 : Nat) (z : Nat → Nat → Nat) : List Prop × Option (SV × List (Option SO)) :=
  outZ [18] (callSim cfgC2 20000 46 (argsC m1 m2 m3 o o2 o3 (.lit 16)) (entsC X Y Z n n2 n3)) [] z
noncomputable def dec1P (X Y Z : Nat → BitVec 8) (n n2 n3 m3 o o2 o3 : Nat) : List Prop := startC X Y o n o2 n2 (roomB m3 0 (firstB Z o3 n3 0 [16 ≤ 16]))
noncomputable def dec1R (X Y Z : Nat → BitVec 8) (n n2 n3 m3 o o2 o3 : Nat) : List Prop × Option (SV × List (Option SO)) :=
  (dec1P X Y Z n n2 n3 m3 o o2 o3, some (pairR 18 (.lit 16), [some (.own (.lst (bx (decJ X Y o o2 (fullB Z o3 1)))) false 5)]))
/-- what is known of the block before the last: so many bytes -/
noncomputable def knowN (l k : Nat) : Nat := ((l : Int) - ((k : Nat) : Int)).toNat
noncomputable def beforeW (ks : Nat → BitVec 8) (Z : Nat → BitVec 8) (l o3 k : Nat) : Nat → BitVec 8 := catB (fun i => lastW Z l o3 (k + 16) (0 + i)) (knowN l (k + 16)) fun i => byteAt (decL ks (block16 Z (o3 + k))) (0 + knowN l (k + 16) * 1 + i)
noncomputable def bndC (l k u : Nat) : Prop := 0 ≤ (l : Int) - (k : Int) ∧ (l : Int) - (k : Int) ≤ (u : Int)
noncomputable def decPP (m : Nat) (X Y Z : Nat → BitVec 8) (n n2 n3 m3 l o o2 o3 : Nat) : List Prop :=
  startC X Y o n o2 n2 ((decide ((l : Int) < 16) = false) :: (decide ((l : Int) > 131072) = false) :: blocksC (roomP m3 l) (m + 1) 0 (cutC Z l o3 n3 m3 (16 * m + 16) ((decide (((16 * m + 32 : Nat) : Int) < (l : Int)) = false) :: inI64 ((l : Int) - ((16 * m + 16 : Nat) : Int)) :: seenB Z o3 n3 (16 * m)
    (bndC l (16 * m + 16) (l - (16 * m + 16) + (zeroStr (padN l (16 * m + 16))).size) :: bndC l (16 * m + 16) (knowN l (16 * m + 16)) :: bndC l (16 * m + 16) 16 :: (0 + knowN l (16 * m + 16) * 1 + (16 - knowN l (16 * m + 16)) ≤ 16)
      :: (0 + knowN l (16 * m + 16) ≤ l - (16 * m + 16) + (zeroStr (padN l (16 * m + 16))).size ∧ IsB (byteF (lastW Z l o3 (16 * m + 16)))) :: (knowN l (16 * m + 16) < knowN l (16 * m + 16) + (16 - knowN l (16 * m + 16)) ∧ roomy (knowN l (16 * m + 16) + (16 - knowN l (16 * m + 16))) 1 ∧ 1 = 1)
      :: runB Z o3 n3 m ((decide (knowN l (16 * m + 16) + (16 - knowN l (16 * m + 16)) = 16) = true) :: IsB (byteF (beforeW (byteAt (keysL (block16 X o))) Z l o3 (16 * m))) :: (0 + 16 ≤ knowN l (16 * m + 16) + (16 - knowN l (16 * m + 16)))
        :: Nat.rec (motive := fun _ => List Prop → List Prop) (fun r => (16 ≤ 16 ∧ 16 ≤ 16) :: r) (fun j _ => prevB Z o3 n3 (16 * j)) m (seenB Z o3 n3 (16 * m) ((decide (knowN l (16 * m + 16) + (16 - knowN l (16 * m + 16)) = 16) = true) :: IsB (byteF (beforeW (byteAt (keysL (block16 X o))) Z l o3 (16 * m)))
          :: (16 ≤ 16 ∧ 0 + 16 ≤ knowN l (16 * m + 16) + (16 - knowN l (16 * m + 16))) :: (0 ≤ (l : Int) ∧ (l : Int) ≤ ((16 * m + 32 : Nat) : Int)) :: (decide (l = 0) = false) :: [0 + l ≤ 16 * m + 32 ∧ roomy l 1])))))))
noncomputable def decPL (m : Nat) (X Y Z : Nat → BitVec 8) (n m1 n2 m2 n3 m3 l o o2 o3 : Nat) (z : Nat → Nat → Nat) : List Prop × Option (SV × List (Option SO)) :=
  outZ [28 + 6 * m] (callSim cfgC2 20000 46 (argsC m1 m2 m3 o o2 o3 (.sym l)) (entsC X Y Z n n2 n3)) (false :: false :: dirsL [true, true, false, true, false, true, true, false] (m + 1)) z
noncomputable def decPR (m : Nat) (X Y Z : Nat → BitVec 8) (n n2 n3 m3 l o o2 o3 : Nat) : List Prop × Option (SV × List (Option SO)) :=
  (decPP m X Y Z n n2 n3 m3 l o o2 o3, some (pairR (28 + 6 * m) (.sym l), [some (.own (.fn (fun i => byteF (byteAt (decJ X Y o o2 (app (fullB Z o3 m) [block16 (beforeW (byteAt (keysL (block16 X o))) Z l o3 (16 * m)) 0, block16 Z (o3 + 16 * m)]))) (0 + i)) l) false 5)]))
section
variable (X Y Z : Nat → BitVec 8) (n m1 n2 m2 n3 m3 l o o2 o3 : Nat) (z : Nat → Nat → Nat)
theorem dec1 : dec1L X Y Z n m1 n2 m2 n3 m3 o o2 o3 z = dec1R X Y Z n n2 n3 m3 o o2 o3 := by kernel_rfl
theorem decF0 : decFL 0 X Y Z n m1 n2 m2 n3 m3 o o2 o3 z = decFR 0 X Y Z n n2 n3 m3 o o2 o3 := by kernel_rfl
theorem decF1 : decFL 1 X Y Z n m1 n2 m2 n3 m3 o o2 o3 z = decFR 1 X Y Z n n2 n3 m3 o o2 o3 := by kernel_rfl
theorem decF2 : decFL 2 X Y Z n m1 n2 m2 n3 m3 o o2 o3 z = decFR 2 X Y Z n n2 n3 m3 o o2 o3 := by kernel_rfl
theorem decF3 : decFL 3 X Y Z n m1 n2 m2 n3 m3 o o2 o3 z = decFR 3 X Y Z n n2 n3 m3 o o2 o3 := by kernel_rfl
theorem decF4 : decFL 4 X Y Z n m1 n2 m2 n3 m3 o o2 o3 z = decFR 4 X Y Z n n2 n3 m3 o o2 o3 := by kernel_rfl
theorem decF5 : decFL 5 X Y Z n m1 n2 m2 n3 m3 o o2 o3 z = decFR 5 X Y Z n n2 n3 m3 o o2 o3 := by kernel_rfl
theorem decF6 : decFL 6 X Y Z n m1 n2 m2 n3 m3 o o2 o3 z = decFR 6 X Y Z n n2 n3 m3 o o2 o3 := by kernel_rfl
theorem decF7 : decFL 7 X Y Z n m1 n2 m2 n3 m3 o o2 o3 z = decFR 7 X Y Z n n2 n3 m3 o o2 o3 := by kernel_rfl
theorem decF8 : decFL 8 X Y Z n m1 n2 m2 n3 m3 o o2 o3 z = decFR 8 X Y Z n n2 n3 m3 o o2 o3 := by kernel_rfl
theorem decF9 : decFL 9 X Y Z n m1 n2 m2 n3 m3 o o2 o3 z = decFR 9 X Y Z n n2 n3 m3 o o2 o3 := by kernel_rfl
theorem decF10 : decFL 10 X Y Z n m1 n2 m2 n3 m3 o o2 o3 z = decFR 10 X Y Z n n2 n3 m3 o o2 o3 := by kernel_rfl
theorem decF11 : decFL 11 X Y Z n m1 n2 m2 n3 m3 o o2 o3 z = decFR 11 X Y Z n n2 n3 m3 o o2 o3 := by kernel_rfl
theorem decF12 : decFL 12 X Y Z n m1 n2 m2 n3 m3 o o2 o3 z = decFR 12 X Y Z n n2 n3 m3 o o2 o3 := by kernel_rfl
theorem decP0 : decPL 0 X Y Z n m1 n2 m2 n3 m3 l o o2 o3 z = decPR 0 X Y Z n n2 n3 m3 l o o2 o3 := by kernel_rfl
theorem decP1 : decPL 1 X Y Z n m1 n2 m2 n3 m3 l o o2 o3 z = decPR 1 X Y Z n n2 n3 m3 l o o2 o3 := by kernel_rfl
theorem decP2 : decPL 2 X Y Z n m1 n2 m2 n3 m3 l o o2 o3 z = decPR 2 X Y Z n n2 n3 m3 l o o2 o3 := by kernel_rfl
theorem decP3 : decPL 3 X Y Z n m1 n2 m2 n3 m3 l o o2 o3 z = decPR 3 X Y Z n n2 n3 m3 l o o2 o3 := by kernel_rfl
theorem decP4 : decPL 4 X Y Z n m1 n2 m2 n3 m3 l o o2 o3 z = decPR 4 X Y Z n n2 n3 m3 l o o2 o3 := by kernel_rfl
theorem decP5 : decPL 5 X Y Z n m1 n2 m2 n3 m3 l o o2 o3 z = decPR 5 X Y Z n n2 n3 m3 l o o2 o3 := by kernel_rfl
theorem decP6 : decPL 6 X Y Z n m1 n2 m2 n3 m3 l o o2 o3 z = decPR 6 X Y Z n n2 n3 m3 l o o2 o3 := by kernel_rfl
theorem decP7 : decPL 7 X Y Z n m1 n2 m2 n3 m3 l o o2 o3 z = decPR 7 X Y Z n n2 n3 m3 l o o2 o3 := by kernel_rfl
theorem decP8 : decPL 8 X Y Z n m1 n2 m2 n3 m3 l o o2 o3 z = decPR 8 X Y Z n n2 n3 m3 l o o2 o3 := by kernel_rfl
theorem decP9 : decPL 9 X Y Z n m1 n2 m2 n3 m3 l o o2 o3 z = decPR 9 X Y Z n n2 n3 m3 l o o2 o3 := by kernel_rfl
theorem decP10 : decPL 10 X Y Z n m1 n2 m2 n3 m3 l o o2 o3 z = decPR 10 X Y Z n n2 n3 m3 l o o2 o3 := by kernel_rfl
theorem decP11 : decPL 11 X Y Z n m1 n2 m2 n3 m3 l o o2 o3 z = decPR 11 X Y Z n n2 n3 m3 l o o2 o3 := by kernel_rfl
theorem decP12 : decPL 12 X Y Z n m1 n2 m2 n3 m3 l o o2 o3 z = decPR 12 X Y Z n n2 n3 m3 l o o2 o3 := by kernel_rfl
end

end Go.Proofs.YtbmgahpjgefjaaaDoor.Aes

