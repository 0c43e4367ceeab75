/-
  CtsChains: the law's runs with a key and an IV.
-/
import Derived.Test.YtdnaaeagllejjaaDoorCk8
namespace Go.Proofs.YtdnaaeagllejjaaDoor.Aes
open Go.Sim
open Go.Proofs
open Go.RowKit

section
variable (X Y : Nat → BitVec 8) (n1 m1 n2 m2 c : Nat) (Z : Nat → Nat → BitVec 8) (P : Nat → Option Addr) (ls cs ns : Nat → Nat) (a : Int)
theorem ch6_0 : allB (chL X Y n1 m1 n2 m2 c Z P ls cs ns a) 6 0 = allB (chR X Y n1 n2 Z ls ns a) 6 0 := by kernel_rfl
theorem ch6_1 : allB (chL X Y n1 m1 n2 m2 c Z P ls cs ns a) 6 1 = allB (chR X Y n1 n2 Z ls ns a) 6 1 := by kernel_rfl
theorem ch6_2 : allB (chL X Y n1 m1 n2 m2 c Z P ls cs ns a) 6 2 = allB (chR X Y n1 n2 Z ls ns a) 6 2 := by kernel_rfl
theorem ch6_3 : allB (chL X Y n1 m1 n2 m2 c Z P ls cs ns a) 6 3 = allB (chR X Y n1 n2 Z ls ns a) 6 3 := by kernel_rfl
theorem ch6_4 : allB (chL X Y n1 m1 n2 m2 c Z P ls cs ns a) 6 4 = allB (chR X Y n1 n2 Z ls ns a) 6 4 := by kernel_rfl
theorem ch6 {k b : Nat} (hk : k < 5) (hb : b ≤ 6) : chL X Y n1 m1 n2 m2 c Z P ls cs ns a 6 k b = chR X Y n1 n2 Z ls ns a 6 k b := by
  have h : k = 0 ∨ k = 1 ∨ k = 2 ∨ k = 3 ∨ k = 4 := by omega
  rcases h with rfl | rfl | rfl | rfl | rfl
  · exact mapN_at (ch6_0 X Y n1 m1 n2 m2 c Z P ls cs ns a) (Nat.zero_le _) (by omega)
  · exact mapN_at (ch6_1 X Y n1 m1 n2 m2 c Z P ls cs ns a) (Nat.zero_le _) (by omega)
  · exact mapN_at (ch6_2 X Y n1 m1 n2 m2 c Z P ls cs ns a) (Nat.zero_le _) (by omega)
  · exact mapN_at (ch6_3 X Y n1 m1 n2 m2 c Z P ls cs ns a) (Nat.zero_le _) (by omega)
  · exact mapN_at (ch6_4 X Y n1 m1 n2 m2 c Z P ls cs ns a) (Nat.zero_le _) (by omega)
theorem ch7_0 : allB (chL X Y n1 m1 n2 m2 c Z P ls cs ns a) 7 0 = allB (chR X Y n1 n2 Z ls ns a) 7 0 := by kernel_rfl
theorem ch7_1 : allB (chL X Y n1 m1 n2 m2 c Z P ls cs ns a) 7 1 = allB (chR X Y n1 n2 Z ls ns a) 7 1 := by kernel_rfl
theorem ch7_2 : allB (chL X Y n1 m1 n2 m2 c Z P ls cs ns a) 7 2 = allB (chR X Y n1 n2 Z ls ns a) 7 2 := by kernel_rfl
theorem ch7_3 : allB (chL X Y n1 m1 n2 m2 c Z P ls cs ns a) 7 3 = allB (chR X Y n1 n2 Z ls ns a) 7 3 := by kernel_rfl
theorem ch7 {k b : Nat} (hk : k < 4) (hb : b ≤ 7) : chL X Y n1 m1 n2 m2 c Z P ls cs ns a 7 k b = chR X Y n1 n2 Z ls ns a 7 k b := by
  have h : k = 0 ∨ k = 1 ∨ k = 2 ∨ k = 3 := by omega
  rcases h with rfl | rfl | rfl | rfl
  · exact mapN_at (ch7_0 X Y n1 m1 n2 m2 c Z P ls cs ns a) (Nat.zero_le _) (by omega)
  · exact mapN_at (ch7_1 X Y n1 m1 n2 m2 c Z P ls cs ns a) (Nat.zero_le _) (by omega)
  · exact mapN_at (ch7_2 X Y n1 m1 n2 m2 c Z P ls cs ns a) (Nat.zero_le _) (by omega)
  · exact mapN_at (ch7_3 X Y n1 m1 n2 m2 c Z P ls cs ns a) (Nat.zero_le _) (by omega)
end

end Go.Proofs.YtdnaaeagllejjaaDoor.Aes

