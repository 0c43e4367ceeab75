/-
  CtsChains: the law's runs with a key and an IV.
-/
import Derived.Test.YtdnaaeagllejjaaDoorCk8
namespace Go.Proofs.YtdnaaeagllejjaaDoor.Aes
open Go.Sim
open Go.Proofs
open Go.RowKit

section
variable (X Y : Nat → BitVec 8) (n1 m1 n2 m2 c : Nat) (Z : Nat → Nat → BitVec 8) (P : Nat → Option Addr) (ls cs ns : Nat → Nat) (a : Int)
theorem ch0_0 : allB (chL X Y n1 m1 n2 m2 c Z P ls cs ns a) 0 0 = allB (chR X Y n1 n2 Z ls ns a) 0 0 := by kernel_rfl
theorem ch0_1 : allB (chL X Y n1 m1 n2 m2 c Z P ls cs ns a) 0 1 = allB (chR X Y n1 n2 Z ls ns a) 0 1 := by kernel_rfl
theorem ch0_2 : allB (chL X Y n1 m1 n2 m2 c Z P ls cs ns a) 0 2 = allB (chR X Y n1 n2 Z ls ns a) 0 2 := by kernel_rfl
theorem ch0_3 : allB (chL X Y n1 m1 n2 m2 c Z P ls cs ns a) 0 3 = allB (chR X Y n1 n2 Z ls ns a) 0 3 := by kernel_rfl
theorem ch0_4 : allB (chL X Y n1 m1 n2 m2 c Z P ls cs ns a) 0 4 = allB (chR X Y n1 n2 Z ls ns a) 0 4 := by kernel_rfl
theorem ch0_5 : allB (chL X Y n1 m1 n2 m2 c Z P ls cs ns a) 0 5 = allB (chR X Y n1 n2 Z ls ns a) 0 5 := by kernel_rfl
theorem ch0_6 : allB (chL X Y n1 m1 n2 m2 c Z P ls cs ns a) 0 6 = allB (chR X Y n1 n2 Z ls ns a) 0 6 := by kernel_rfl
theorem ch0_7 : allB (chL X Y n1 m1 n2 m2 c Z P ls cs ns a) 0 7 = allB (chR X Y n1 n2 Z ls ns a) 0 7 := by kernel_rfl
theorem ch0_8 : allB (chL X Y n1 m1 n2 m2 c Z P ls cs ns a) 0 8 = allB (chR X Y n1 n2 Z ls ns a) 0 8 := by kernel_rfl
theorem ch0_9 : allB (chL X Y n1 m1 n2 m2 c Z P ls cs ns a) 0 9 = allB (chR X Y n1 n2 Z ls ns a) 0 9 := by kernel_rfl
theorem ch0_10 : allB (chL X Y n1 m1 n2 m2 c Z P ls cs ns a) 0 10 = allB (chR X Y n1 n2 Z ls ns a) 0 10 := by kernel_rfl
theorem ch0 {k b : Nat} (hk : k < 11) (hb : b ≤ 0) : chL X Y n1 m1 n2 m2 c Z P ls cs ns a 0 k b = chR X Y n1 n2 Z ls ns a 0 k b := by
  have h : k = 0 ∨ k = 1 ∨ k = 2 ∨ k = 3 ∨ k = 4 ∨ k = 5 ∨ k = 6 ∨ k = 7 ∨ k = 8 ∨ k = 9 ∨ k = 10 := by omega
  rcases h with rfl | rfl | rfl | rfl | rfl | rfl | rfl | rfl | rfl | rfl | rfl
  · exact mapN_at (ch0_0 X Y n1 m1 n2 m2 c Z P ls cs ns a) (Nat.zero_le _) (by omega)
  · exact mapN_at (ch0_1 X Y n1 m1 n2 m2 c Z P ls cs ns a) (Nat.zero_le _) (by omega)
  · exact mapN_at (ch0_2 X Y n1 m1 n2 m2 c Z P ls cs ns a) (Nat.zero_le _) (by omega)
  · exact mapN_at (ch0_3 X Y n1 m1 n2 m2 c Z P ls cs ns a) (Nat.zero_le _) (by omega)
  · exact mapN_at (ch0_4 X Y n1 m1 n2 m2 c Z P ls cs ns a) (Nat.zero_le _) (by omega)
  · exact mapN_at (ch0_5 X Y n1 m1 n2 m2 c Z P ls cs ns a) (Nat.zero_le _) (by omega)
  · exact mapN_at (ch0_6 X Y n1 m1 n2 m2 c Z P ls cs ns a) (Nat.zero_le _) (by omega)
  · exact mapN_at (ch0_7 X Y n1 m1 n2 m2 c Z P ls cs ns a) (Nat.zero_le _) (by omega)
  · exact mapN_at (ch0_8 X Y n1 m1 n2 m2 c Z P ls cs ns a) (Nat.zero_le _) (by omega)
  · exact mapN_at (ch0_9 X Y n1 m1 n2 m2 c Z P ls cs ns a) (Nat.zero_le _) (by omega)
  · exact mapN_at (ch0_10 X Y n1 m1 n2 m2 c Z P ls cs ns a) (Nat.zero_le _) (by omega)
theorem ch1_0 : allB (chL X Y n1 m1 n2 m2 c Z P ls cs ns a) 1 0 = allB (chR X Y n1 n2 Z ls ns a) 1 0 := by kernel_rfl
theorem ch1_1 : allB (chL X Y n1 m1 n2 m2 c Z P ls cs ns a) 1 1 = allB (chR X Y n1 n2 Z ls ns a) 1 1 := by kernel_rfl
theorem ch1_2 : allB (chL X Y n1 m1 n2 m2 c Z P ls cs ns a) 1 2 = allB (chR X Y n1 n2 Z ls ns a) 1 2 := by kernel_rfl
theorem ch1_3 : allB (chL X Y n1 m1 n2 m2 c Z P ls cs ns a) 1 3 = allB (chR X Y n1 n2 Z ls ns a) 1 3 := by kernel_rfl
theorem ch1_4 : allB (chL X Y n1 m1 n2 m2 c Z P ls cs ns a) 1 4 = allB (chR X Y n1 n2 Z ls ns a) 1 4 := by kernel_rfl
theorem ch1_5 : allB (chL X Y n1 m1 n2 m2 c Z P ls cs ns a) 1 5 = allB (chR X Y n1 n2 Z ls ns a) 1 5 := by kernel_rfl
theorem ch1_6 : allB (chL X Y n1 m1 n2 m2 c Z P ls cs ns a) 1 6 = allB (chR X Y n1 n2 Z ls ns a) 1 6 := by kernel_rfl
theorem ch1_7 : allB (chL X Y n1 m1 n2 m2 c Z P ls cs ns a) 1 7 = allB (chR X Y n1 n2 Z ls ns a) 1 7 := by kernel_rfl
theorem ch1_8 : allB (chL X Y n1 m1 n2 m2 c Z P ls cs ns a) 1 8 = allB (chR X Y n1 n2 Z ls ns a) 1 8 := by kernel_rfl
theorem ch1_9 : allB (chL X Y n1 m1 n2 m2 c Z P ls cs ns a) 1 9 = allB (chR X Y n1 n2 Z ls ns a) 1 9 := by kernel_rfl
theorem ch1 {k b : Nat} (hk : k < 10) (hb : b ≤ 1) : chL X Y n1 m1 n2 m2 c Z P ls cs ns a 1 k b = chR X Y n1 n2 Z ls ns a 1 k b := by
  have h : k = 0 ∨ k = 1 ∨ k = 2 ∨ k = 3 ∨ k = 4 ∨ k = 5 ∨ k = 6 ∨ k = 7 ∨ k = 8 ∨ k = 9 := by omega
  rcases h with rfl | rfl | rfl | rfl | rfl | rfl | rfl | rfl | rfl | rfl
  · exact mapN_at (ch1_0 X Y n1 m1 n2 m2 c Z P ls cs ns a) (Nat.zero_le _) (by omega)
  · exact mapN_at (ch1_1 X Y n1 m1 n2 m2 c Z P ls cs ns a) (Nat.zero_le _) (by omega)
  · exact mapN_at (ch1_2 X Y n1 m1 n2 m2 c Z P ls cs ns a) (Nat.zero_le _) (by omega)
  · exact mapN_at (ch1_3 X Y n1 m1 n2 m2 c Z P ls cs ns a) (Nat.zero_le _) (by omega)
  · exact mapN_at (ch1_4 X Y n1 m1 n2 m2 c Z P ls cs ns a) (Nat.zero_le _) (by omega)
  · exact mapN_at (ch1_5 X Y n1 m1 n2 m2 c Z P ls cs ns a) (Nat.zero_le _) (by omega)
  · exact mapN_at (ch1_6 X Y n1 m1 n2 m2 c Z P ls cs ns a) (Nat.zero_le _) (by omega)
  · exact mapN_at (ch1_7 X Y n1 m1 n2 m2 c Z P ls cs ns a) (Nat.zero_le _) (by omega)
  · exact mapN_at (ch1_8 X Y n1 m1 n2 m2 c Z P ls cs ns a) (Nat.zero_le _) (by omega)
  · exact mapN_at (ch1_9 X Y n1 m1 n2 m2 c Z P ls cs ns a) (Nat.zero_le _) (by omega)
theorem ch2_0 : allB (chL X Y n1 m1 n2 m2 c Z P ls cs ns a) 2 0 = allB (chR X Y n1 n2 Z ls ns a) 2 0 := by kernel_rfl
theorem ch2_1 : allB (chL X Y n1 m1 n2 m2 c Z P ls cs ns a) 2 1 = allB (chR X Y n1 n2 Z ls ns a) 2 1 := by kernel_rfl
theorem ch2_2 : allB (chL X Y n1 m1 n2 m2 c Z P ls cs ns a) 2 2 = allB (chR X Y n1 n2 Z ls ns a) 2 2 := by kernel_rfl
theorem ch2_3 : allB (chL X Y n1 m1 n2 m2 c Z P ls cs ns a) 2 3 = allB (chR X Y n1 n2 Z ls ns a) 2 3 := by kernel_rfl
theorem ch2_4 : allB (chL X Y n1 m1 n2 m2 c Z P ls cs ns a) 2 4 = allB (chR X Y n1 n2 Z ls ns a) 2 4 := by kernel_rfl
theorem ch2_5 : allB (chL X Y n1 m1 n2 m2 c Z P ls cs ns a) 2 5 = allB (chR X Y n1 n2 Z ls ns a) 2 5 := by kernel_rfl
theorem ch2_6 : allB (chL X Y n1 m1 n2 m2 c Z P ls cs ns a) 2 6 = allB (chR X Y n1 n2 Z ls ns a) 2 6 := by kernel_rfl
theorem ch2_7 : allB (chL X Y n1 m1 n2 m2 c Z P ls cs ns a) 2 7 = allB (chR X Y n1 n2 Z ls ns a) 2 7 := by kernel_rfl
theorem ch2_8 : allB (chL X Y n1 m1 n2 m2 c Z P ls cs ns a) 2 8 = allB (chR X Y n1 n2 Z ls ns a) 2 8 := by kernel_rfl
theorem ch2 {k b : Nat} (hk : k < 9) (hb : b ≤ 2) : chL X Y n1 m1 n2 m2 c Z P ls cs ns a 2 k b = chR X Y n1 n2 Z ls ns a 2 k b := by
  have h : k = 0 ∨ k = 1 ∨ k = 2 ∨ k = 3 ∨ k = 4 ∨ k = 5 ∨ k = 6 ∨ k = 7 ∨ k = 8 := by omega
  rcases h with rfl | rfl | rfl | rfl | rfl | rfl | rfl | rfl | rfl
  · exact mapN_at (ch2_0 X Y n1 m1 n2 m2 c Z P ls cs ns a) (Nat.zero_le _) (by omega)
  · exact mapN_at (ch2_1 X Y n1 m1 n2 m2 c Z P ls cs ns a) (Nat.zero_le _) (by omega)
  · exact mapN_at (ch2_2 X Y n1 m1 n2 m2 c Z P ls cs ns a) (Nat.zero_le _) (by omega)
  · exact mapN_at (ch2_3 X Y n1 m1 n2 m2 c Z P ls cs ns a) (Nat.zero_le _) (by omega)
  · exact mapN_at (ch2_4 X Y n1 m1 n2 m2 c Z P ls cs ns a) (Nat.zero_le _) (by omega)
  · exact mapN_at (ch2_5 X Y n1 m1 n2 m2 c Z P ls cs ns a) (Nat.zero_le _) (by omega)
  · exact mapN_at (ch2_6 X Y n1 m1 n2 m2 c Z P ls cs ns a) (Nat.zero_le _) (by omega)
  · exact mapN_at (ch2_7 X Y n1 m1 n2 m2 c Z P ls cs ns a) (Nat.zero_le _) (by omega)
  · exact mapN_at (ch2_8 X Y n1 m1 n2 m2 c Z P ls cs ns a) (Nat.zero_le _) (by omega)
theorem ch3_0 : allB (chL X Y n1 m1 n2 m2 c Z P ls cs ns a) 3 0 = allB (chR X Y n1 n2 Z ls ns a) 3 0 := by kernel_rfl
theorem ch3_1 : allB (chL X Y n1 m1 n2 m2 c Z P ls cs ns a) 3 1 = allB (chR X Y n1 n2 Z ls ns a) 3 1 := by kernel_rfl
theorem ch3_2 : allB (chL X Y n1 m1 n2 m2 c Z P ls cs ns a) 3 2 = allB (chR X Y n1 n2 Z ls ns a) 3 2 := by kernel_rfl
theorem ch3_3 : allB (chL X Y n1 m1 n2 m2 c Z P ls cs ns a) 3 3 = allB (chR X Y n1 n2 Z ls ns a) 3 3 := by kernel_rfl
theorem ch3_4 : allB (chL X Y n1 m1 n2 m2 c Z P ls cs ns a) 3 4 = allB (chR X Y n1 n2 Z ls ns a) 3 4 := by kernel_rfl
theorem ch3_5 : allB (chL X Y n1 m1 n2 m2 c Z P ls cs ns a) 3 5 = allB (chR X Y n1 n2 Z ls ns a) 3 5 := by kernel_rfl
theorem ch3_6 : allB (chL X Y n1 m1 n2 m2 c Z P ls cs ns a) 3 6 = allB (chR X Y n1 n2 Z ls ns a) 3 6 := by kernel_rfl
theorem ch3_7 : allB (chL X Y n1 m1 n2 m2 c Z P ls cs ns a) 3 7 = allB (chR X Y n1 n2 Z ls ns a) 3 7 := by kernel_rfl
theorem ch3 {k b : Nat} (hk : k < 8) (hb : b ≤ 3) : chL X Y n1 m1 n2 m2 c Z P ls cs ns a 3 k b = chR X Y n1 n2 Z ls ns a 3 k b := by
  have h : k = 0 ∨ k = 1 ∨ k = 2 ∨ k = 3 ∨ k = 4 ∨ k = 5 ∨ k = 6 ∨ k = 7 := by omega
  rcases h with rfl | rfl | rfl | rfl | rfl | rfl | rfl | rfl
  · exact mapN_at (ch3_0 X Y n1 m1 n2 m2 c Z P ls cs ns a) (Nat.zero_le _) (by omega)
  · exact mapN_at (ch3_1 X Y n1 m1 n2 m2 c Z P ls cs ns a) (Nat.zero_le _) (by omega)
  · exact mapN_at (ch3_2 X Y n1 m1 n2 m2 c Z P ls cs ns a) (Nat.zero_le _) (by omega)
  · exact mapN_at (ch3_3 X Y n1 m1 n2 m2 c Z P ls cs ns a) (Nat.zero_le _) (by omega)
  · exact mapN_at (ch3_4 X Y n1 m1 n2 m2 c Z P ls cs ns a) (Nat.zero_le _) (by omega)
  · exact mapN_at (ch3_5 X Y n1 m1 n2 m2 c Z P ls cs ns a) (Nat.zero_le _) (by omega)
  · exact mapN_at (ch3_6 X Y n1 m1 n2 m2 c Z P ls cs ns a) (Nat.zero_le _) (by omega)
  · exact mapN_at (ch3_7 X Y n1 m1 n2 m2 c Z P ls cs ns a) (Nat.zero_le _) (by omega)
theorem ch4_0 : allB (chL X Y n1 m1 n2 m2 c Z P ls cs ns a) 4 0 = allB (chR X Y n1 n2 Z ls ns a) 4 0 := by kernel_rfl
theorem ch4_1 : allB (chL X Y n1 m1 n2 m2 c Z P ls cs ns a) 4 1 = allB (chR X Y n1 n2 Z ls ns a) 4 1 := by kernel_rfl
theorem ch4_2 : allB (chL X Y n1 m1 n2 m2 c Z P ls cs ns a) 4 2 = allB (chR X Y n1 n2 Z ls ns a) 4 2 := by kernel_rfl
theorem ch4_3 : allB (chL X Y n1 m1 n2 m2 c Z P ls cs ns a) 4 3 = allB (chR X Y n1 n2 Z ls ns a) 4 3 := by kernel_rfl
theorem ch4_4 : allB (chL X Y n1 m1 n2 m2 c Z P ls cs ns a) 4 4 = allB (chR X Y n1 n2 Z ls ns a) 4 4 := by kernel_rfl
theorem ch4_5 : allB (chL X Y n1 m1 n2 m2 c Z P ls cs ns a) 4 5 = allB (chR X Y n1 n2 Z ls ns a) 4 5 := by kernel_rfl
theorem ch4_6 : allB (chL X Y n1 m1 n2 m2 c Z P ls cs ns a) 4 6 = allB (chR X Y n1 n2 Z ls ns a) 4 6 := by kernel_rfl
theorem ch4 {k b : Nat} (hk : k < 7) (hb : b ≤ 4) : chL X Y n1 m1 n2 m2 c Z P ls cs ns a 4 k b = chR X Y n1 n2 Z ls ns a 4 k b := by
  have h : k = 0 ∨ k = 1 ∨ k = 2 ∨ k = 3 ∨ k = 4 ∨ k = 5 ∨ k = 6 := by omega
  rcases h with rfl | rfl | rfl | rfl | rfl | rfl | rfl
  · exact mapN_at (ch4_0 X Y n1 m1 n2 m2 c Z P ls cs ns a) (Nat.zero_le _) (by omega)
  · exact mapN_at (ch4_1 X Y n1 m1 n2 m2 c Z P ls cs ns a) (Nat.zero_le _) (by omega)
  · exact mapN_at (ch4_2 X Y n1 m1 n2 m2 c Z P ls cs ns a) (Nat.zero_le _) (by omega)
  · exact mapN_at (ch4_3 X Y n1 m1 n2 m2 c Z P ls cs ns a) (Nat.zero_le _) (by omega)
  · exact mapN_at (ch4_4 X Y n1 m1 n2 m2 c Z P ls cs ns a) (Nat.zero_le _) (by omega)
  · exact mapN_at (ch4_5 X Y n1 m1 n2 m2 c Z P ls cs ns a) (Nat.zero_le _) (by omega)
  · exact mapN_at (ch4_6 X Y n1 m1 n2 m2 c Z P ls cs ns a) (Nat.zero_le _) (by omega)
theorem ch5_0 : allB (chL X Y n1 m1 n2 m2 c Z P ls cs ns a) 5 0 = allB (chR X Y n1 n2 Z ls ns a) 5 0 := by kernel_rfl
theorem ch5_1 : allB (chL X Y n1 m1 n2 m2 c Z P ls cs ns a) 5 1 = allB (chR X Y n1 n2 Z ls ns a) 5 1 := by kernel_rfl
theorem ch5_2 : allB (chL X Y n1 m1 n2 m2 c Z P ls cs ns a) 5 2 = allB (chR X Y n1 n2 Z ls ns a) 5 2 := by kernel_rfl
theorem ch5_3 : allB (chL X Y n1 m1 n2 m2 c Z P ls cs ns a) 5 3 = allB (chR X Y n1 n2 Z ls ns a) 5 3 := by kernel_rfl
theorem ch5_4 : allB (chL X Y n1 m1 n2 m2 c Z P ls cs ns a) 5 4 = allB (chR X Y n1 n2 Z ls ns a) 5 4 := by kernel_rfl
theorem ch5_5 : allB (chL X Y n1 m1 n2 m2 c Z P ls cs ns a) 5 5 = allB (chR X Y n1 n2 Z ls ns a) 5 5 := by kernel_rfl
theorem ch5 {k b : Nat} (hk : k < 6) (hb : b ≤ 5) : chL X Y n1 m1 n2 m2 c Z P ls cs ns a 5 k b = chR X Y n1 n2 Z ls ns a 5 k b := by
  have h : k = 0 ∨ k = 1 ∨ k = 2 ∨ k = 3 ∨ k = 4 ∨ k = 5 := by omega
  rcases h with rfl | rfl | rfl | rfl | rfl | rfl
  · exact mapN_at (ch5_0 X Y n1 m1 n2 m2 c Z P ls cs ns a) (Nat.zero_le _) (by omega)
  · exact mapN_at (ch5_1 X Y n1 m1 n2 m2 c Z P ls cs ns a) (Nat.zero_le _) (by omega)
  · exact mapN_at (ch5_2 X Y n1 m1 n2 m2 c Z P ls cs ns a) (Nat.zero_le _) (by omega)
  · exact mapN_at (ch5_3 X Y n1 m1 n2 m2 c Z P ls cs ns a) (Nat.zero_le _) (by omega)
  · exact mapN_at (ch5_4 X Y n1 m1 n2 m2 c Z P ls cs ns a) (Nat.zero_le _) (by omega)
  · exact mapN_at (ch5_5 X Y n1 m1 n2 m2 c Z P ls cs ns a) (Nat.zero_le _) (by omega)
end

end Go.Proofs.YtdnaaeagllejjaaDoor.Aes

