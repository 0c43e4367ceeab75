/-
  A hash in progress, within a keyed hash or alone: its cells, and what a block does to it.
-/
import Derived.Test.YtflafdhmmcknhaaGreatDoorPp6
import Derived.Test.YtflafdhmmcknhaaGreatDoorPp7
namespace Go.Proofs.YtflafdhmmcknhaaGreatDoor.Aes
open Go.Sim
open Go.Proofs
variable {α : Type}

/-- the key blocks, the words, the rest, the number of bytes -/
structure HSt where
  K : Nat → BitVec 8
  ws : List W32
  R : Nat → BitVec 8
  n : Nat
noncomputable def tabB (X : Nat → BitVec 8) (n : Nat) : List (BitVec 8) := mapN X (fromN n 0)
noncomputable def hcells (S : HSt) : List SV := app (wx (eight S.ws)) (app (bx (tabB S.R 64)) [.int .i64 (.sym S.n)])
noncomputable def mcells (S : HSt) : List SV := app (bx (tabB S.K 128)) (app (hcells S) [.bool (.lit true)])
noncomputable def withW (S : HSt) (ws : List W32) : HSt := ⟨S.K, ws, S.R, S.n⟩
set_option maxRecDepth 100000
theorem add_own (S : HSt) (w : Bool) (el : TypeId) : outP [4] (callSim cfgH1 40000 79 [.ptr ⟨4, .lit 128⟩, .slice ⟨4, .lit 136⟩ (.lit 64) (.lit 64)] (shaHP [.own (.lst (mcells S)) w el])) =
    ([], some (.tuple [], [some (.own (.lst (mcells (withW S (cmpW (eight S.ws) (words16 S.R 0))))) w el)])) := by kernel_rfl
theorem add_oth (S : HSt) (X : Nat → BitVec 8) (n m o : Nat) (w : Bool) (el : TypeId) : outP [4] (callSim cfgH1 40000 79 [.ptr ⟨4, .lit 128⟩, .slice ⟨5, .sym o⟩ (.lit 64) (.sym m)] (shaHP [.own (.lst (mcells S)) w el, rowF X n])) =
    (addC n m o, some (.tuple [], [some (.own (.lst (mcells (withW S (cmpW (eight S.ws) (words16 X o))))) w el)])) := by kernel_rfl
theorem add_key (S T : HSt) (w : Bool) (el : TypeId) : outP [4] (callSim cfgH1 40000 79 [.ptr ⟨4, .lit 0⟩, .slice ⟨5, .lit 0⟩ (.lit 64) (.lit 64)] (shaHP [.own (.lst (hcells S)) w el, .row (.lst (mcells T))])) =
    ([], some (.tuple [], [some (.own (.lst (hcells (withW S (cmpW (eight S.ws) (words16 T.K 0))))) w el)])) := by kernel_rfl
theorem add_key2 (S T : HSt) (w : Bool) (el : TypeId) : outP [4] (callSim cfgH1 40000 79 [.ptr ⟨4, .lit 0⟩, .slice ⟨5, .lit 64⟩ (.lit 64) (.lit 64)] (shaHP [.own (.lst (hcells S)) w el, .row (.lst (mcells T))])) =
    ([], some (.tuple [], [some (.own (.lst (hcells (withW S (cmpW (eight S.ws) (words16 T.K 64))))) w el)])) := by kernel_rfl
end Go.Proofs.YtflafdhmmcknhaaGreatDoor.Aes

