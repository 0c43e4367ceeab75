/-
  The block cipher, fourth part: encrypting and decrypting, from runs.
-/
import Derived.Test.YtdnaaeagllejjaaAes3
namespace Go.Proofs.Ytdnaaeagllejjaa.Aes
open Go.Sim
open Go.Proofs
variable {α : Type}

noncomputable def cfg5 : Cfg := cfgOf (sumsOf [(27, passS tabE fun xs _ => mapL subB xs), (28, passS placedE fun xs _ => shiftL xs), (29, passS placedE fun xs _ => mixL true xs), (30, passS placedE addL),
  (37, passS tabE fun xs _ => mapL recB xs), (36, passS placedE fun xs _ => unshiftL xs), (35, passS placedE fun xs _ => mixL false xs)])
theorem cfg5OK : CfgOK cfg5 := sumsOf_ok (allC substituteOK (allC shiftOK (allC mixOK (allC addOK (allC restoreOK (allC unshiftOK (all1 unmixOK)))))))
/-- a cipher's cells -/
noncomputable def cipherL (ks : List (BitVec 8)) : List SV := app (lx tabI) (app (bx ks) [.bool (.lit true)])
noncomputable def keyOf (K : Nat → BitVec 8) : List (BitVec 8) := mapN K (fromN 176 0)
noncomputable def rkey (K : Nat → BitVec 8) (r : Nat) : List (BitVec 8) := mapN K (fromN 16 (16 * r))
noncomputable def block16 (X : Nat → BitVec 8) (o : Nat) : List (BitVec 8) := mapN (fun i => X (o + i)) (fromN 16 0)
noncomputable def encR (K : Nat → BitVec 8) (r : Nat) (xs : List (BitVec 8)) : List (BitVec 8) := addL (mixL true (shiftL (mapL subB xs))) (rkey K r)
noncomputable def encL (K : Nat → BitVec 8) (xs : List (BitVec 8)) : List (BitVec 8) := addL (shiftL (mapL subB (encR K 9 (encR K 8 (encR K 7 (encR K 6 (encR K 5 (encR K 4 (encR K 3 (encR K 2 (encR K 1 (addL xs (rkey K 0))))))))))))) (rkey K 10)
noncomputable def decR (K : Nat → BitVec 8) (r : Nat) (xs : List (BitVec 8)) : List (BitVec 8) := mapL recB (unshiftL (mixL false (addL xs (rkey K r))))
noncomputable def decL (K : Nat → BitVec 8) (xs : List (BitVec 8)) : List (BitVec 8) := addL (decR K 1 (decR K 2 (decR K 3 (decR K 4 (decR K 5 (decR K 6 (decR K 7 (decR K 8 (decR K 9 (mapL recB (unshiftL (addL xs (rkey K 10))))))))))))) (rkey K 0)
theorem enc_run (K X : Nat → BitVec 8) (o n m k : Nat) : outF [24] (callSim cfg5 6000 15 [.ptr ⟨0, .lit 0⟩, .slice ⟨1, .sym o⟩ (.sym k) (.sym m)] [.row (.lst (cipherL (keyOf K))), rowF X n]) =
    some (((k : Int) != 16), ([], some (.tuple [.nilSlice, .int .i64 (.lit (.ofNat 2))], [none])), [16 ≤ k, o + 16 ≤ n], some (.tuple [.slice ⟨24, .lit 0⟩ (.lit 16) (.rest 24 0), .int .i64 (.lit (.ofNat 0))], [some (.own (.lst (bx (encL K (block16 X o)))) false 5)])) := by kernel_rfl
theorem dec_run (K X : Nat → BitVec 8) (o n m k : Nat) : outF [24] (callSim cfg5 6000 24 [.ptr ⟨0, .lit 0⟩, .slice ⟨1, .sym o⟩ (.sym k) (.sym m)] [.row (.lst (cipherL (keyOf K))), rowF X n]) =
    some (((k : Int) != 16), ([], some (.tuple [.nilSlice, .int .i64 (.lit (.ofNat 2))], [none])), [16 ≤ k, o + 16 ≤ n], some (.tuple [.slice ⟨24, .lit 0⟩ (.lit 16) (.rest 24 0), .int .i64 (.lit (.ofNat 0))], [some (.own (.lst (bx (decL K (block16 X o)))) false 5)])) := by kernel_rfl

theorem nil_run (K : Nat → BitVec 8) : outP [] (callSim cfg5 6000 15 [.ptr ⟨0, .lit 0⟩, .nilSlice] [.row (.lst (cipherL (keyOf K)))]) = ([], some (.tuple [.nilSlice, .int .i64 (.lit (.ofNat 2))], [])) ∧
    outP [] (callSim cfg5 6000 24 [.ptr ⟨0, .lit 0⟩, .nilSlice] [.row (.lst (cipherL (keyOf K)))]) = ([], some (.tuple [.nilSlice, .int .i64 (.lit (.ofNat 2))], [])) := by
  refine ⟨?_, ?_⟩ <;> kernel_rfl

theorem err_run (K : Nat → BitVec 8) (o m k : Nat) : outF [] (callSim cfg5 6000 15 [.ptr ⟨0, .lit 0⟩, .slice ⟨1, .sym o⟩ (.sym k) (.sym m)] [.row (.lst (cipherL (keyOf K))), .gone]) = some (((k : Int) != 16), ([], some (.tuple [.nilSlice, .int .i64 (.lit (.ofNat 2))], [])), ([16 ≤ k], none)) ∧
    outF [] (callSim cfg5 6000 24 [.ptr ⟨0, .lit 0⟩, .slice ⟨1, .sym o⟩ (.sym k) (.sym m)] [.row (.lst (cipherL (keyOf K))), .gone]) = some (((k : Int) != 16), ([], some (.tuple [.nilSlice, .int .i64 (.lit (.ofNat 2))], [])), ([16 ≤ k], none)) := by
  refine ⟨?_, ?_⟩ <;> kernel_rfl

end Go.Proofs.Ytdnaaeagllejjaa.Aes
