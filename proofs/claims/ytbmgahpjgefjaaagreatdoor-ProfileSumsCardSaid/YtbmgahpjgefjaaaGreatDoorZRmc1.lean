/-
  The reference's keyed hash: the key block (a loop).
-/
import Derived.Test.YtbmgahpjgefjaaaGreatDoorPk7
import Derived.Test.YtbmgahpjgefjaaaGreatDoorPk13
namespace Go.Proofs.YtbmgahpjgefjaaaGreatDoor.Aes
open Go.Sim
open Go.Proofs
variable {α : Type}

set_option maxRecDepth 1000000
/-- the hash of bytes, as 32 of them -/
noncomputable def hash32 (F : HashF) : Summ := fun args H _ => args1 args fun v => shaT H (sliceR v (.ok ⟨.agg (b32L (F (fun _ => 0#8) 0)), [], []⟩) fun a l => boolC (newOne a.nm) (bytesE (nth H a.nm) fun X N => .need (a.off.den + l.den ≤ N ∧ l.den ≤ 1099511627776) (.ok ⟨.agg (b32L (F (fun i => X (a.off.den + i)) l.den)), [], []⟩)) (.stuck 740))
theorem hash32OK : SumAt Tryz.prog globS 74 (hash32 shaF) := by
  rw [show hash32 shaF = hashM shaF 1099511627776 from by
    funext args H base
    unfold hash32 hashM
    simp only [b32L_eq (shaF_len _ _)]]
  exact rsmOK
noncomputable def cfgRb (F : HashF) : Cfg := cfgG globS (sumsOf [(74, hash32 F)])
theorem cfgRbOK : CfgOK (cfgRb shaF) := sumsG_ok (allS hash32OK (by simp))
noncomputable def rbN (F : HashF) (k : Sl) (n : Nat) (x : BitVec 8) : Tree := callSim (cfgRb F) 8000 75 [k.valN 4 n, .int .u8 (.b8 x)] (shaH [k.row])
noncomputable def rbE (L : List (BitVec 8)) : SO := .own (.lst (bx L)) true 5
noncomputable def rbV (nm : Nat) : SV := .slice ⟨nm, .lit 0⟩ (.lit 64) (.lit 64)
/-- the key block of a key of at most 64 bytes, of a longer one -/
noncomputable def rbL (k : Sl) (n : Nat) (x : BitVec 8) : List (BitVec 8) := tabB (fun i => (if i < n then k.X (k.o + i) else BitVec.ofInt 8 0) ^^^ x) 64
section
variable (F : HashF) (k : Sl) (x : BitVec 8) (m : Nat)
theorem rb_16 : outO [5] (rbN F (k.pl m) 16 x) [] = (need1 (fun i => k.o + i < k.N) 16, some (rbV 5, [some (rbE (rbL k 16 x))])) := by kernel_rfl
theorem rb_32 : outO [5] (rbN F (k.pl m) 32 x) [] = (need1 (fun i => k.o + i < k.N) 32, some (rbV 5, [some (rbE (rbL k 32 x))])) := by kernel_rfl
end
end Go.Proofs.YtbmgahpjgefjaaaGreatDoor.Aes

