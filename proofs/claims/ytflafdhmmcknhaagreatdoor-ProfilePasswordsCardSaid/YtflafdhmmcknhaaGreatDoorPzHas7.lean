/-
  A keyed hash begun: New.
-/
import Derived.Test.YtflafdhmmcknhaaGreatDoorPp8
namespace Go.Proofs.YtflafdhmmcknhaaGreatDoor.Aes
open Go.Sim
open Go.Proofs
variable {α : Type}

set_option maxRecDepth 1000000
noncomputable def cfgN : Cfg := cfgG globP (sumsOf [(79, addHS), (58, hashS shaF)])
theorem cfgNOK : CfgOK cfgN := sumsG_ok (allS addHOK (allS sumOK (by simp)))
noncomputable def nwT (X : Nat → BitVec 8) (N o n m : Nat) : Tree := callSim cfgN 16000 36 [.slice ⟨4, .sym o⟩ (.sym n) (.sym m)] (shaHP [rowF X N])
noncomputable def newK (k : Nat → BitVec 8) : Nat → BitVec 8 := fun i => if i < 64 then k i ^^^ 0x5c#8 else k (i - 64) ^^^ 0x36#8
noncomputable def newH (k : Nat → BitVec 8) : HSt := ⟨newK k, cmpW (eight startV) (words16 (newK k) 64), fun _ => 0#8, 64⟩
noncomputable def okV (nm : Nat) : SV := .tuple [.ptr ⟨nm, .lit 0⟩, .int .i64 (.lit 0)]
noncomputable def key1 (X : Nat → BitVec 8) (o n : Nat) : Nat → BitVec 8 := fun i => if 0 ≤ i ∧ i < 0 + n then X (o + i) else BitVec.ofNat 8 0
noncomputable def key2 (X : Nat → BitVec 8) (o n : Nat) : Nat → BitVec 8 := fun i => if i < 32 then byteAt (shaF (fun j => X (o + j)) n) i else BitVec.ofNat 8 0
/-- the same, with the key's cells az they are -/
noncomputable def macL (l : List SV) (S : HSt) : SO := .own (.lst (app l (app (hcells S) [.bool (.lit true)]))) true 101
noncomputable def keyL0 : List SV := app (kx .u8 (repN 92 64)) (kx .u8 (repN 54 64))
noncomputable def keyL2 (X : Nat → BitVec 8) (o n : Nat) : List SV := app (app (bx (tabB (fun i => byteAt (shaF (fun j => X (o + j)) n) i ^^^ 0x5c#8) 32)) (kx .u8 (repN 92 32))) (app (bx (tabB (fun i => byteAt (shaF (fun j => X (o + j)) n) i ^^^ 0x36#8) 32)) (kx .u8 (repN 54 32)))
theorem keyL0_un : unb keyL0 = some (tabB (newK fun _ => 0#8) 128) := by kernel_rfl
theorem keyL2_un (X : Nat → BitVec 8) (o n : Nat) : unb (keyL2 X o n) = some (tabB (newK (key2 X o n)) 128) := by kernel_rfl
section
variable (X : Nat → BitVec 8) (N o n m : Nat)
theorem new_nil : outO [7] (callSim cfgN 16000 36 [.nilSlice] (shaHP [])) [] = ([(0 : Int) ≤ 64, (0 : Int) ≤ 0], some (okV 7, [some (macL keyL0 (newH fun _ => 0#8))])) := by kernel_rfl
theorem new_run1 : outO [8] (nwT X N o n m) [false, false] = ([decide ((n : Int) > 4096) = false, decide ((n : Int) > 64) = false, (o + n ≤ N ∧ IsB (byteF X)), n ≤ 64, 0 + n ≤ 64, (0 : Int) ≤ 64, (0 : Int) ≤ 0], some (okV 8, [some (macE (newH (key1 X o n)))])) := by kernel_rfl
theorem new_run2 : outO [9] (nwT X N o n m) [false, true] = ([decide ((n : Int) > 4096) = false, decide ((n : Int) > 64) = true, IsB (byteF X), o + n ≤ N, (0 : Int) ≤ 64, (0 : Int) ≤ 0], some (okV 9, [some (macL (keyL2 X o n) (newH (key2 X o n)))])) := by kernel_rfl
end
end Go.Proofs.YtflafdhmmcknhaaGreatDoor.Aes

