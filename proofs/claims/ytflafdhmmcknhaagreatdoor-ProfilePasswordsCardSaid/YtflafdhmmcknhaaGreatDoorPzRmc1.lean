/-
  The reference's keyed hash: the key block (a loop).
-/
import Derived.Test.YtflafdhmmcknhaaGreatDoorPp7
import Derived.Test.YtflafdhmmcknhaaGreatDoorPp13
namespace Go.Proofs.YtflafdhmmcknhaaGreatDoor.Aes
open Go.Sim
open Go.Proofs
variable {α : Type}

set_option maxRecDepth 1000000
/-- the hash of bytes, az 32 of them -/
noncomputable def hash32 (F : HashF) : Summ := fun args H _ => args1 args fun v => shaT H (sliceR v (.ok ⟨.agg (b32L (F (fun _ => 0#8) 0)), [], []⟩) fun a l => boolC (newOne a.nm) (bytesE (nth H a.nm) fun X N => .need (a.off.den + l.den ≤ N ∧ l.den ≤ 1099511627776) (.ok ⟨.agg (b32L (F (fun i => X (a.off.den + i)) l.den)), [], []⟩)) (.stuck 740))
theorem hash32OK : SumAt Tryz.prog globS 66 (hash32 shaF) := by
  rw [show hash32 shaF = hashM shaF 1099511627776 from by
    funext args H base
    unfold hash32 hashM
    simp only [b32L_eq (shaF_len _ _)]]
  exact rsmOK
noncomputable def cfgRb (F : HashF) : Cfg := cfgG globS (sumsOf [(66, hash32 F)])
theorem cfgRbOK : CfgOK (cfgRb shaF) := sumsG_ok (allS hash32OK (by simp))
noncomputable def rbA (k : Sl) (x : BitVec 8) : List SV := [k.val 4, .int .u8 (.b8 x)]
noncomputable def rbN (F : HashF) (k : Sl) (n : Nat) (x : BitVec 8) : Tree := callSim (cfgRb F) 8000 67 [k.valN 4 n, .int .u8 (.b8 x)] (shaH [k.row])
noncomputable def rbE (L : List (BitVec 8)) : SO := .own (.lst (bx L)) true 5
noncomputable def rbV (nm : Nat) : SV := .slice ⟨nm, .lit 0⟩ (.lit 64) (.lit 64)
/-- the key block of a key of at most 64 bytes, of a longer one -/
noncomputable def rbL (k : Sl) (n : Nat) (x : BitVec 8) : List (BitVec 8) := tabB (fun i => (if i < n then k.X (k.o + i) else BitVec.ofInt 8 0) ^^^ x) 64
noncomputable def rbM (F : HashF) (k : Sl) (x : BitVec 8) : List (BitVec 8) := tabB (fun i => (if i < 32 then byteAt (F k.F k.n) i else BitVec.ofInt 8 0) ^^^ x) 64
section
variable (F : HashF) (k : Sl) (x : BitVec 8) (m : Nat)
theorem rb_big : outO [5] (callSim (cfgRb F) 8000 67 (rbA (k.pl m) x) (shaH [k.row])) [true] = ([decide ((k.n : Int) > 64) = true, IsB (byteF k.X), k.o + k.n ≤ k.N ∧ k.n ≤ 1099511627776], some (rbV 5, [some (rbE (rbM F k x))])) := by kernel_rfl
end
end Go.Proofs.YtflafdhmmcknhaaGreatDoor.Aes

