/-
  ProfileKeys: the law's runs, one for each length of the key (b).
-/
import Derived.Test.YtbmgahpjgefjaaaGreatDoorPk12
namespace Go.Proofs.YtbmgahpjgefjaaaGreatDoor.Aes
open Go.Sim
open Go.Proofs

set_option maxRecDepth 1000000
section
variable (p v p' v' : Int) (k b : Sl) (m m2 : Nat)
theorem ys_bad0_1 : mapN (fun l => outO [] (ysT p v (k.pl m) l p' v' .nilSlice []) [false, false, false, false, true, false, true, false, false, true, true, true, true]) (fromN 10 1) = mapN (fun l => (y1 p v p' v' k m [] [] nilSl l (yBad p l), yR)) (fromN 10 1) := by kernel_rfl
theorem ys_bad0_11 : mapN (fun l => outO [] (ysT p v (k.pl m) l p' v' .nilSlice []) [false, false, false, false, true, false, true, false, false, true, true, true, true]) (fromN 10 11) = mapN (fun l => (y1 p v p' v' k m [] [] nilSl l (yBad p l), yR)) (fromN 10 11) := by kernel_rfl
theorem ys_bad0_21 : mapN (fun l => outO [] (ysT p v (k.pl m) l p' v' .nilSlice []) [false, false, false, false, true, false, true, false, false, true, true, true, true]) (fromN 10 21) = mapN (fun l => (y1 p v p' v' k m [] [] nilSl l (yBad p l), yR)) (fromN 10 21) := by kernel_rfl
theorem ys_bad0_31 : mapN (fun l => outO [] (ysT p v (k.pl m) l p' v' .nilSlice []) [false, false, false, false, true, false, true, false, false, true, true, true, true]) (fromN 10 31) = mapN (fun l => (y1 p v p' v' k m [] [] nilSl l (yBad p l), yR)) (fromN 10 31) := by kernel_rfl
theorem ys_ok0_16 : mapN (fun l => outO [] (ysT p v (k.pl m) l p' v' .nilSlice []) [false, false, false, false, false, false, false, false, false, true, true, true, true]) (fromN 1 16) = mapN (fun l => (y1 p v p' v' k m [] [] nilSl l (yOk p k l), yR)) (fromN 1 16) := by kernel_rfl
theorem ys_ok0_32 : mapN (fun l => outO [] (ysT p v (k.pl m) l p' v' .nilSlice []) [false, false, false, false, false, false, false, false, false, true, true, true, true]) (fromN 1 32) = mapN (fun l => (y1 p v p' v' k m [] [] nilSl l (yOk p k l), yR)) (fromN 1 32) := by kernel_rfl
end
end Go.Proofs.YtbmgahpjgefjaaaGreatDoor.Aes

