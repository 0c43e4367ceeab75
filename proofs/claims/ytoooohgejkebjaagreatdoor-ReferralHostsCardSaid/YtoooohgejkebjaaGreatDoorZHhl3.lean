/-
  ReferralHosts: the law's runs, the ways with a map.
-/
import Derived.Test.YtoooohgejkebjaaGreatDoorZHhl2
namespace Go.Proofs.YtoooohgejkebjaaGreatDoor.Aes
open Go.Sim
open Go.Proofs
variable {α : Type}

set_option maxRecDepth 1000000
section
variable (V : Nat → Value) (N n k : Nat) (many : Int) (J : Junk) (z : Nat → Nat → Nat) (re : Bool) (es : List MapEntry) (c : Nat) (W : Nat → Value) (m i : Nat)
noncomputable def tiK (X Y : ByteArray) : List MapEntry := insK es c (.string X) (.string Y)
noncomputable def tiW (X Y : ByteArray) : Nat → Value := rowP (insH (tR re W m).list (X, Y))
noncomputable def tdW (X : ByteArray) : Nat → Value := rowP (delH (tR false W m).list X)
theorem hl_A3 : mapN (fun o => mapN (fun w => hlD V N n k many J z es c W m i false re o (app (dW w) (dA 3)) nm8) (fromN 3 0)) (fromN 15 0) =
  mapN (fun o => mapN (fun w => (hlX V N n i z o w (cAd re W m (aFr V i) (aTo V i) (app (cA re W m es (aFr V i) (aTo V i) 3) (i1 i))), seN nm8 9 (hlC V N n k many false false (tiK es c (aFr V i) (aTo V i)) (c + 1) (tiW re W m (aFr V i) (aTo V i)) ((tR re W m).n + 1) (i + 1)))) (fromN 3 0)) (fromN 15 0) := by cases re <;> kernel_rfl
theorem hl_R : mapN (fun o => mapN (fun a => hlD V N n k many J z es c W m i false re o (app (dW 3) (dR a)) nm7) (fromN 2 0)) (fromN 15 0) =
  mapN (fun o => mapN (fun a => (hlX V N n i z o 3 (cRm re W m (aFr V i) (app (cR re W m es (aFr V i) a) (i1 i))), seN nm7 8 (hlC V N n k many false re es c W m (i + 1)))) (fromN 2 0)) (fromN 15 0) := by cases re <;> kernel_rfl
theorem hl_R2 : mapN (fun o => hlD V N n k many J z es c W m i false false o (app (dW 3) (dR 2)) nm8) (fromN 15 0) =
  mapN (fun o => (hlX V N n i z o 3 (cRm false W m (aFr V i) (app (cR false W m es (aFr V i) 2) (i1 i))),
    some (.inr (modSeen [] [(5, .ent (.own (.lst [.slice ⟨8, .lit 0⟩ (.lit 0) (.lit 0)]) true 30))] (seenC nm8 9 (hlC V N n k many false true (delK es (.string (aFr V i))) c W m (i + 1))))))) (fromN 15 0) := by kernel_rfl
theorem hl_R3 : mapN (fun o => hlD V N n k many J z es c W m i false false o (app (dW 3) (dR 3)) nm8) (fromN 15 0) =
  mapN (fun o => (hlX V N n i z o 3 (cRm false W m (aFr V i) (app (cR false W m es (aFr V i) 3) (i1 i))), seN nm8 9 (hlC V N n k many false false (delK es (.string (aFr V i))) c (tdW W m (aFr V i)) ((tR false W m).n - 1) (i + 1)))) (fromN 15 0) := by kernel_rfl
theorem hl_C : mapN (fun o => mapN (fun b => mapN (fun u => hlD V N n k many J z es c W m i false re o (app (dW 4) (app (dB b) (dV u))) nm9) (fromN 3 0)) (fromN 2 0)) (fromN 15 0) =
  mapN (fun o => mapN (fun b => mapN (fun u => (hlX V N n i z o 4 (app (cB1 es b) (app (cV (aFr V i) (esC es c b) u) (i1 i))), seN nm9 10 (hlC V N n k many false re es c W m (i + 1)))) (fromN 3 0)) (fromN 2 0)) (fromN 15 0) := by cases re <;> kernel_rfl
theorem hl_L0 : mapN (fun o => hlD V N n k many J z es c W m i false re o (app (dW 5) [false, false]) nm7) (fromN 15 0) =
  mapN (fun o => (hlX V N n i z o 5 (cL re W m es (aFr V i) false (i1 i)), seN nm7 8 (hlC V N n k many false re es c W m (i + 1)))) (fromN 15 0) := by cases re <;> kernel_rfl
theorem hl_L1 : mapN (fun o => hlD V N n k many J z es c W m i false false o (app (dW 5) [true, true, true]) nm7) (fromN 15 0) =
  mapN (fun o => (hlX V N n i z o 5 (cL false W m es (aFr V i) true (smQ false W m es (aFr V i) :: i1 i)), seN nm7 8 (hlC V N n k many false false es c W m (i + 1)))) (fromN 15 0) := by kernel_rfl
end
end Go.Proofs.YtoooohgejkebjaaGreatDoor.Aes

