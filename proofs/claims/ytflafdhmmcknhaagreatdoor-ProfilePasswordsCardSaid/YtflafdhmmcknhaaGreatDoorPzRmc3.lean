/-
  The reference's keyed hash: HMAC for keys of 16 or 32 bytes.
-/
import Derived.Test.YtflafdhmmcknhaaGreatDoorPp14
namespace Go.Proofs.YtflafdhmmcknhaaGreatDoor.Aes
open Go.Sim
open Go.Proofs
variable {α : Type}

set_option maxRecDepth 1000000
noncomputable def rhR (j : Nat) (L : List (BitVec 8)) : Option (SV × List (Option SO)) := some (mkV j, [some (mkE L)])
section
variable (F : HashF) (k b : Sl) (m m2 : Nat)
end
/- Plain: it is the keyed hash. -/
theorem app_at {l r : List (BitVec 8)} {i : Nat} : byteAt (app l r) i = if i < l.length then byteAt l i else byteAt r (i - l.length) := by
  unfold byteAt
  rw [app_eq]
  by_cases h : i < l.length
  · rw [if_pos h, List.getElem?_append_left h]
  · rw [if_neg h, List.getElem?_append_right (by omega)]
theorem tabB_length (X : Nat → BitVec 8) (n : Nat) : (tabB X n).length = n := by
  unfold tabB; rw [mapN_eq, List.length_map, fromN_eq, List.length_range']
end Go.Proofs.YtflafdhmmcknhaaGreatDoor.Aes

