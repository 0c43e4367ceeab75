/-
  CtsChains: the law's runs with a key and an IV.
-/
import Derived.Test.YtdnaaeagllejjaaDoorCk8
namespace Go.Proofs.YtdnaaeagllejjaaDoor.Aes
open Go.Sim
open Go.Proofs
open Go.RowKit

section
variable (X Y : Nat → BitVec 8) (n1 m1 n2 m2 c : Nat) (Z : Nat → Nat → BitVec 8) (P : Nat → Option Addr) (ls cs ns : Nat → Nat) (a : Int)
theorem ch8_0 : allB (chL X Y n1 m1 n2 m2 c Z P ls cs ns a) 8 0 = allB (chR X Y n1 n2 Z ls ns a) 8 0 := by kernel_rfl
theorem ch8_1 : allB (chL X Y n1 m1 n2 m2 c Z P ls cs ns a) 8 1 = allB (chR X Y n1 n2 Z ls ns a) 8 1 := by kernel_rfl
theorem ch8_2 : allB (chL X Y n1 m1 n2 m2 c Z P ls cs ns a) 8 2 = allB (chR X Y n1 n2 Z ls ns a) 8 2 := by kernel_rfl
theorem ch8 {k b : Nat} (hk : k < 3) (hb : b ≤ 8) : chL X Y n1 m1 n2 m2 c Z P ls cs ns a 8 k b = chR X Y n1 n2 Z ls ns a 8 k b := by
  have h : k = 0 ∨ k = 1 ∨ k = 2 := by omega
  rcases h with rfl | rfl | rfl
  · exact mapN_at (ch8_0 X Y n1 m1 n2 m2 c Z P ls cs ns a) (Nat.zero_le _) (by omega)
  · exact mapN_at (ch8_1 X Y n1 m1 n2 m2 c Z P ls cs ns a) (Nat.zero_le _) (by omega)
  · exact mapN_at (ch8_2 X Y n1 m1 n2 m2 c Z P ls cs ns a) (Nat.zero_le _) (by omega)
theorem ch9_0 : allB (chL X Y n1 m1 n2 m2 c Z P ls cs ns a) 9 0 = allB (chR X Y n1 n2 Z ls ns a) 9 0 := by kernel_rfl
theorem ch9_1 : allB (chL X Y n1 m1 n2 m2 c Z P ls cs ns a) 9 1 = allB (chR X Y n1 n2 Z ls ns a) 9 1 := by kernel_rfl
theorem ch9 {k b : Nat} (hk : k < 2) (hb : b ≤ 9) : chL X Y n1 m1 n2 m2 c Z P ls cs ns a 9 k b = chR X Y n1 n2 Z ls ns a 9 k b := by
  have h : k = 0 ∨ k = 1 := by omega
  rcases h with rfl | rfl
  · exact mapN_at (ch9_0 X Y n1 m1 n2 m2 c Z P ls cs ns a) (Nat.zero_le _) (by omega)
  · exact mapN_at (ch9_1 X Y n1 m1 n2 m2 c Z P ls cs ns a) (Nat.zero_le _) (by omega)
theorem ch10_0 : allB (chL X Y n1 m1 n2 m2 c Z P ls cs ns a) 10 0 = allB (chR X Y n1 n2 Z ls ns a) 10 0 := by kernel_rfl
theorem ch10 {k b : Nat} (hk : k < 1) (hb : b ≤ 10) : chL X Y n1 m1 n2 m2 c Z P ls cs ns a 10 k b = chR X Y n1 n2 Z ls ns a 10 k b := by
  obtain rfl : k = 0 := by omega
  exact mapN_at (ch10_0 X Y n1 m1 n2 m2 c Z P ls cs ns a) (Nat.zero_le _) (by omega)
end

end Go.Proofs.YtdnaaeagllejjaaDoor.Aes

