/-
  The reference's keyed hash: the summary of the key block, for keys of 16 or 32 bytes.
-/
import Derived.Test.YtflafdhmmcknhaaGreatDoorPzRmc1
namespace Go.Proofs.YtflafdhmmcknhaaGreatDoor.Aes
open Go.Sim
open Go.Proofs
variable {α : Type}

set_option maxRecDepth 1000000
theorem endsRb {I : Ifc} {base j : Nat} {L : List (BitVec 8)} {H : List SO} (hj : I.known j = false) (ho : ownsOf I.ents 0 = []) (hE : H[j]? = some (rbE L)) : I.Ends base [j] ⟨rbV base, [], [rbE L]⟩ (rbV j) H := by
  have ho' : I.out base [j] j = base := by
    unfold Ifc.out
    rw [hj]
    show base + idxN j [j] = base
    rw [show idxN j [j] = boolC (Nat.beq j j) 0 _ from rfl, Nat.beq_refl]; rfl
  have hs : I.seen [j] j = true := by
    unfold Ifc.seen
    rw [hj]
    exact (memN_iff (n := j) (l := [j])).2 List.mem_cons_self
  refine ⟨?_, ?_, by rw [ho]; trivial, ⟨given_own hE (bx_uses _ _) (by show SO.own (.lst (SV.renL _ (bx _))) _ _ = _; rw [bx_ren]; rfl), trivial⟩⟩
  · show (SV.slice ⟨I.out base [j] j, .lit 0⟩ (.lit 64) (.lit 64)).Imp _
    rw [ho']; exact .refl _
  · show (I.seen [j] j && true) = true
    rw [hs]; rfl
/- HMAC. -/
end Go.Proofs.YtflafdhmmcknhaaGreatDoor.Aes

