/-
  Chained blocks, third part: what a run of Decrypt comes to, for each number of blocks.
-/
import Derived.Test.YtflafdhmmcknhaaGreatDoorPzCts2
namespace Go.Proofs.YtflafdhmmcknhaaGreatDoor.Aes
open Go.Sim
open Go.Proofs
variable {α : Type}

/-- blocks out of chained blocks -/
noncomputable def unchainL (ks : Nat → BitVec 8) (bs : List Blk) : Blk → List Blk := List.rec (motive := fun _ => Blk → List Blk) (fun _ => []) (fun b _ ih prev => addL (decL ks b) prev :: ih b) bs
section
variable (X Y Z : Nat → BitVec 8) (n m1 n2 m2 n3 m3 l o o2 o3 : Nat) (z : Nat → Nat → Nat)
end

end Go.Proofs.YtflafdhmmcknhaaGreatDoor.Aes

