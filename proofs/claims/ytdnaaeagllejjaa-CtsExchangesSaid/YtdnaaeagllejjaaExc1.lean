/-
  CtsExchanges: the law's own runs, for every number of bytes from 16 to 160.
-/
import Derived.Test.YtdnaaeagllejjaaInv4
namespace Go.Proofs.Ytdnaaeagllejjaa.Aes
open Go.Sim
open Go.Proofs
open Go.RowKit

noncomputable def cfgE : Cfg := cfgOf (sumsOf [(17, cloneS), (16, combS), (25, newS), (15, cryptS encL), (9, ctsS encF), (6, knownCS)])
theorem cfgEOK : CfgOK cfgE := sumsOf_ok (allC cloneOK (allC combOK (allC newOK (allC encryptOK (allC encOK (all1 knownCOK))))))
noncomputable def excB (Z : Nat → BitVec 8) (n3 : Nat) (r : List Prop) (n : Nat) : Nat → List Prop := Nat.rec (motive := fun _ => Nat → List Prop) (fun _ => r) (fun _ ih i => IsB (byteF Z) :: (0 + 16 ≤ 16 ∧ 16 * i + 16 ≤ n3) :: (0 + 16 ≤ 16) :: (0 + 16 ≤ 16) :: ih (i + 1)) n
noncomputable def chB (X Y Z : Nat → BitVec 8) (m : Nat) : Blk := joinL (swL (chainL (byteAt (keysL (block16 X 0))) (fullB Z 0 m) (block16 Y 0)))
noncomputable def excP (m : Nat) (X Y Z : Nat → BitVec 8) (n n2 n3 : Nat) : List Prop :=
  IsB (byteF X) :: (0 + 16 ≤ n) :: IsB (byteF Y) :: (0 + 16 ≤ n2) :: excB Z n3 (IsB (byteF Y) :: (0 + 16 ≤ n2) :: IsB (byteF X) :: (0 + 16 ≤ n) :: IsB (byteF Z) :: (0 + 16 * m ≤ n3 ∧ 16 * m ≤ 224)
    :: strC (eX X Y Z (16 * m)) (16 * m) (16 * m) [decide (strOfFn (byteF (eX X Y Z (16 * m))) 0 (16 * m) = (SStr.bytes (mapN SI.b8 (chB X Y Z m))).den) = true]) m 0
noncomputable def excA (c c2 c3 l : Nat) : List SV := [.slice ⟨0, .lit 0⟩ (.lit 16) (.sym c), .slice ⟨1, .lit 0⟩ (.lit 16) (.sym c2), .slice ⟨2, .lit 0⟩ (.lit l) (.sym c3)]
noncomputable def excL (X Y Z : Nat → BitVec 8) (n c n2 c2 n3 c3 : Nat) (l : Nat) : List Prop × Option (SV × List (Option SO)) := outO [] (callSim cfgE 20000 3 (excA c c2 c3 l) [rowF X n, rowF Y n2, rowF Z n3]) [true]
noncomputable def excR (m : Nat) (X Y Z : Nat → BitVec 8) (n n2 n3 : Nat) : List Prop × Option (SV × List (Option SO)) := (excP m X Y Z n n2 n3, some (.bool (.lit true), []))
section
variable (X Y Z : Nat → BitVec 8) (n c n2 c2 n3 c3 : Nat)
theorem exc1 : mapN (excL X Y Z n c n2 c2 n3 c3) (fromN 16 16) = repN (excR 1 X Y Z n n2 n3) 16 := by kernel_rfl
theorem exc2 : mapN (excL X Y Z n c n2 c2 n3 c3) (fromN 16 32) = repN (excR 2 X Y Z n n2 n3) 16 := by kernel_rfl
theorem exc3 : mapN (excL X Y Z n c n2 c2 n3 c3) (fromN 16 48) = repN (excR 3 X Y Z n n2 n3) 16 := by kernel_rfl
theorem exc4 : mapN (excL X Y Z n c n2 c2 n3 c3) (fromN 16 64) = repN (excR 4 X Y Z n n2 n3) 16 := by kernel_rfl
theorem exc5 : mapN (excL X Y Z n c n2 c2 n3 c3) (fromN 16 80) = repN (excR 5 X Y Z n n2 n3) 16 := by kernel_rfl
theorem exc6 : mapN (excL X Y Z n c n2 c2 n3 c3) (fromN 16 96) = repN (excR 6 X Y Z n n2 n3) 16 := by kernel_rfl
theorem exc7 : mapN (excL X Y Z n c n2 c2 n3 c3) (fromN 16 112) = repN (excR 7 X Y Z n n2 n3) 16 := by kernel_rfl
theorem exc8 : mapN (excL X Y Z n c n2 c2 n3 c3) (fromN 16 128) = repN (excR 8 X Y Z n n2 n3) 16 := by kernel_rfl
theorem exc9 : mapN (excL X Y Z n c n2 c2 n3 c3) (fromN 16 144) = repN (excR 9 X Y Z n n2 n3) 16 := by kernel_rfl
theorem exc10 : excL X Y Z n c n2 c2 n3 c3 160 = excR 10 X Y Z n n2 n3 := by kernel_rfl
theorem run_at {β : Type} {f : Nat → β} {r : β} {k b : Nat} (h : mapN f (fromN k b) = repN r k) {l : Nat} (h1 : b ≤ l) (h2 : l < b + k) : f l = r := by
  rw [mapN_eq, fromN_eqr, repN_eq] at h
  have h3 : (List.map f (List.range' b k))[l - b]? = some (f l) := by
    rw [List.getElem?_map, List.getElem?_range' (by omega)]
    simp only [Option.map_some]
    rw [show b + 1 * (l - b) = l from by omega]
  rw [h, List.getElem?_replicate, if_pos (by omega)] at h3
  exact (Option.some.inj h3).symm
theorem exc_all {l : Nat} (h : 16 ≤ l) (h2 : l ≤ 160) : excL X Y Z n c n2 c2 n3 c3 l = excR (l / 16) X Y Z n n2 n3 := by
  have hm : l / 16 = 1 ∨ l / 16 = 2 ∨ l / 16 = 3 ∨ l / 16 = 4 ∨ l / 16 = 5 ∨ l / 16 = 6 ∨ l / 16 = 7 ∨ l / 16 = 8 ∨ l / 16 = 9 ∨ l = 160 := by omega
  rcases hm with h | h | h | h | h | h | h | h | h | rfl
  · rw [h]; exact run_at (exc1 X Y Z n c n2 c2 n3 c3) (by omega) (by omega)
  · rw [h]; exact run_at (exc2 X Y Z n c n2 c2 n3 c3) (by omega) (by omega)
  · rw [h]; exact run_at (exc3 X Y Z n c n2 c2 n3 c3) (by omega) (by omega)
  · rw [h]; exact run_at (exc4 X Y Z n c n2 c2 n3 c3) (by omega) (by omega)
  · rw [h]; exact run_at (exc5 X Y Z n c n2 c2 n3 c3) (by omega) (by omega)
  · rw [h]; exact run_at (exc6 X Y Z n c n2 c2 n3 c3) (by omega) (by omega)
  · rw [h]; exact run_at (exc7 X Y Z n c n2 c2 n3 c3) (by omega) (by omega)
  · rw [h]; exact run_at (exc8 X Y Z n c n2 c2 n3 c3) (by omega) (by omega)
  · rw [h]; exact run_at (exc9 X Y Z n c n2 c2 n3 c3) (by omega) (by omega)
  · exact exc10 X Y Z n c n2 c2 n3 c3
end

end Go.Proofs.Ytdnaaeagllejjaa.Aes
