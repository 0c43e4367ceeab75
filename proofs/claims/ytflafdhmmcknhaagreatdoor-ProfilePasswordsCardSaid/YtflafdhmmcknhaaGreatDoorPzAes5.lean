/-
  The block cipher, fifth part: the round keys of a key, from runs.
-/
import Derived.Test.YtflafdhmmcknhaaGreatDoorPp11
namespace Go.Proofs.YtflafdhmmcknhaaGreatDoor.Aes
open Go.Sim
open Go.Proofs
variable {α : Type}

/-- the next round key -/
def nextKey (f : BitVec 8) (k : List (BitVec 8)) : List (BitVec 8) :=
  let n0 := byteAt k 0 ^^^ (subB (byteAt k 13) ^^^ f)
  let n1 := byteAt k 1 ^^^ subB (byteAt k 14)
  let n2 := byteAt k 2 ^^^ subB (byteAt k 15)
  let n3 := byteAt k 3 ^^^ subB (byteAt k 12)
  let n4 := byteAt k 4 ^^^ n0
  let n5 := byteAt k 5 ^^^ n1
  let n6 := byteAt k 6 ^^^ n2
  let n7 := byteAt k 7 ^^^ n3
  let n8 := byteAt k 8 ^^^ n4
  let n9 := byteAt k 9 ^^^ n5
  let na := byteAt k 10 ^^^ n6
  let nb := byteAt k 11 ^^^ n7
  [n0, n1, n2, n3, n4, n5, n6, n7, n8, n9, na, nb, byteAt k 12 ^^^ n8, byteAt k 13 ^^^ n9, byteAt k 14 ^^^ na, byteAt k 15 ^^^ nb]
def powB (r : Nat) : BitVec 8 := Nat.rec (BitVec.ofInt 8 1) (fun _ x => dbl x) r
/-- the round keys from the r-th on, and so many of them -/
noncomputable def keysFrom (n : Nat) : Nat → List (BitVec 8) → List (BitVec 8) :=
  Nat.rec (motive := fun _ => Nat → List (BitVec 8) → List (BitVec 8)) (fun _ k => k) (fun _ ih r k => app k (ih (Nat.succ r) (nextKey (powB r) k))) n
noncomputable def keysL (k : List (BitVec 8)) : List (BitVec 8) := keysFrom 10 0 k
noncomputable def zerosL (n : Nat) : List Int := repN 0 n
noncomputable def freshC : SO := .own (.lst (app (lx (zerosL 688)) [.bool (.lit true)])) true 155
noncomputable def filledC : SO := .own (.lst (app (lx tabI) (app (lx (zerosL 176)) [.bool (.lit true)]))) true 155
noncomputable def readyC (ks : List (BitVec 8)) : SO := .own (.lst (cipherL ks)) true 155
noncomputable def cfg6 : Cfg := cfgOf (sumsOf [(113, lookS subB), (114, dblS)])
theorem cfg6OK : CfgOK cfg6 := sumsOf_ok (allC replaceOK (all1 dblOK))
theorem fill_run : outP [0] (callSim cfg0 20000 103 [.ptr ⟨0, .lit 0⟩] [freshC]) = ([], some (.tuple [], [some filledC])) := by kernel_rfl
theorem expand_run (X : Nat → BitVec 8) (o n m : Nat) : outP [0] (callSim cfg6 20000 104 [.ptr ⟨0, .lit 0⟩, .slice ⟨1, .sym o⟩ (.lit 16) (.sym m)] [filledC, rowF X n]) = ([4 ≤ m, o + 0 + 4 ≤ n, 8 ≤ m, o + 4 + 4 ≤ n, 12 ≤ m, o + 8 + 4 ≤ n, 16 ≤ m, o + 12 + 4 ≤ n], some (.tuple [], [some (readyC (keysL (block16 X o)))])) := by kernel_rfl

end Go.Proofs.YtflafdhmmcknhaaGreatDoor.Aes

