/-
  CtsChains: the law's runs that are left at once, and those without a key or an IV.
-/
import Derived.Test.YtdnaaeagllejjaaDoorCk8
namespace Go.Proofs.YtdnaaeagllejjaaDoor.Aes
open Go.Sim
open Go.Proofs
open Go.RowKit

section
variable (Y : Nat → BitVec 8) (n2 m2 c K c1 K2 c2 : Nat) (p1 p2 : Option Addr) (Z : Nat → Nat → BitVec 8) (P : Nat → Option Addr) (ls cs ns : Nat → Nat) (a : Int)
theorem ex0 : allKI (exL c K c1 K2 c2 p1 p2 Z P ls cs ns a) 0 = allKI (exR K K2 ls ns) 0 := by kernel_rfl
theorem ex1 : allKI (exL c K c1 K2 c2 p1 p2 Z P ls cs ns a) 1 = allKI (exR K K2 ls ns) 1 := by kernel_rfl
theorem ex2 : allKI (exL c K c1 K2 c2 p1 p2 Z P ls cs ns a) 2 = allKI (exR K K2 ls ns) 2 := by kernel_rfl
theorem ex3 : allKI (exL c K c1 K2 c2 p1 p2 Z P ls cs ns a) 3 = allKI (exR K K2 ls ns) 3 := by kernel_rfl
theorem ex4 : allKI (exL c K c1 K2 c2 p1 p2 Z P ls cs ns a) 4 = allKI (exR K K2 ls ns) 4 := by kernel_rfl
theorem ex5 : allKI (exL c K c1 K2 c2 p1 p2 Z P ls cs ns a) 5 = allKI (exR K K2 ls ns) 5 := by kernel_rfl
theorem ex6 : allKI (exL c K c1 K2 c2 p1 p2 Z P ls cs ns a) 6 = allKI (exR K K2 ls ns) 6 := by kernel_rfl
theorem ex7 : allKI (exL c K c1 K2 c2 p1 p2 Z P ls cs ns a) 7 = allKI (exR K K2 ls ns) 7 := by kernel_rfl
theorem ex8 : allKI (exL c K c1 K2 c2 p1 p2 Z P ls cs ns a) 8 = allKI (exR K K2 ls ns) 8 := by kernel_rfl
theorem ex9 : allKI (exL c K c1 K2 c2 p1 p2 Z P ls cs ns a) 9 = allKI (exR K K2 ls ns) 9 := by kernel_rfl
theorem ex10 : allKI (exL c K c1 K2 c2 p1 p2 Z P ls cs ns a) 10 = allKI (exR K K2 ls ns) 10 := by kernel_rfl
theorem bad_true0 : allK (badL c K c1 K2 c2 p1 p2 Z P ls cs ns a true) 0 = allK (badR K K2 ls ns true) 0 := by kernel_rfl
theorem bad_true1 : allK (badL c K c1 K2 c2 p1 p2 Z P ls cs ns a true) 1 = allK (badR K K2 ls ns true) 1 := by kernel_rfl
theorem bad_true2 : allK (badL c K c1 K2 c2 p1 p2 Z P ls cs ns a true) 2 = allK (badR K K2 ls ns true) 2 := by kernel_rfl
theorem bad_true3 : allK (badL c K c1 K2 c2 p1 p2 Z P ls cs ns a true) 3 = allK (badR K K2 ls ns true) 3 := by kernel_rfl
theorem bad_true4 : allK (badL c K c1 K2 c2 p1 p2 Z P ls cs ns a true) 4 = allK (badR K K2 ls ns true) 4 := by kernel_rfl
theorem bad_true5 : allK (badL c K c1 K2 c2 p1 p2 Z P ls cs ns a true) 5 = allK (badR K K2 ls ns true) 5 := by kernel_rfl
theorem bad_true6 : allK (badL c K c1 K2 c2 p1 p2 Z P ls cs ns a true) 6 = allK (badR K K2 ls ns true) 6 := by kernel_rfl
theorem bad_true7 : allK (badL c K c1 K2 c2 p1 p2 Z P ls cs ns a true) 7 = allK (badR K K2 ls ns true) 7 := by kernel_rfl
theorem bad_true8 : allK (badL c K c1 K2 c2 p1 p2 Z P ls cs ns a true) 8 = allK (badR K K2 ls ns true) 8 := by kernel_rfl
theorem bad_true9 : allK (badL c K c1 K2 c2 p1 p2 Z P ls cs ns a true) 9 = allK (badR K K2 ls ns true) 9 := by kernel_rfl
theorem bad_true10 : allK (badL c K c1 K2 c2 p1 p2 Z P ls cs ns a true) 10 = allK (badR K K2 ls ns true) 10 := by kernel_rfl
theorem bad_true {q k : Nat} (hq : q ≤ 10) (hk : k < 11 - q) : (badL c K c1 K2 c2 p1 p2 Z P ls cs ns a true) q k = (badR K K2 ls ns true) q k := by
  have h : q = 0 ∨ q = 1 ∨ q = 2 ∨ q = 3 ∨ q = 4 ∨ q = 5 ∨ q = 6 ∨ q = 7 ∨ q = 8 ∨ q = 9 ∨ q = 10 := by omega
  rcases h with rfl | rfl | rfl | rfl | rfl | rfl | rfl | rfl | rfl | rfl | rfl
  · exact mapN_at (bad_true0 c K c1 K2 c2 p1 p2 Z P ls cs ns a) (Nat.zero_le _) (by show k < 0 + (11 - 0); omega)
  · exact mapN_at (bad_true1 c K c1 K2 c2 p1 p2 Z P ls cs ns a) (Nat.zero_le _) (by show k < 0 + (11 - 1); omega)
  · exact mapN_at (bad_true2 c K c1 K2 c2 p1 p2 Z P ls cs ns a) (Nat.zero_le _) (by show k < 0 + (11 - 2); omega)
  · exact mapN_at (bad_true3 c K c1 K2 c2 p1 p2 Z P ls cs ns a) (Nat.zero_le _) (by show k < 0 + (11 - 3); omega)
  · exact mapN_at (bad_true4 c K c1 K2 c2 p1 p2 Z P ls cs ns a) (Nat.zero_le _) (by show k < 0 + (11 - 4); omega)
  · exact mapN_at (bad_true5 c K c1 K2 c2 p1 p2 Z P ls cs ns a) (Nat.zero_le _) (by show k < 0 + (11 - 5); omega)
  · exact mapN_at (bad_true6 c K c1 K2 c2 p1 p2 Z P ls cs ns a) (Nat.zero_le _) (by show k < 0 + (11 - 6); omega)
  · exact mapN_at (bad_true7 c K c1 K2 c2 p1 p2 Z P ls cs ns a) (Nat.zero_le _) (by show k < 0 + (11 - 7); omega)
  · exact mapN_at (bad_true8 c K c1 K2 c2 p1 p2 Z P ls cs ns a) (Nat.zero_le _) (by show k < 0 + (11 - 8); omega)
  · exact mapN_at (bad_true9 c K c1 K2 c2 p1 p2 Z P ls cs ns a) (Nat.zero_le _) (by show k < 0 + (11 - 9); omega)
  · exact mapN_at (bad_true10 c K c1 K2 c2 p1 p2 Z P ls cs ns a) (Nat.zero_le _) (by show k < 0 + (11 - 10); omega)
theorem bad_false0 : allK (badL c K c1 K2 c2 p1 p2 Z P ls cs ns a false) 0 = allK (badR K K2 ls ns false) 0 := by kernel_rfl
theorem bad_false1 : allK (badL c K c1 K2 c2 p1 p2 Z P ls cs ns a false) 1 = allK (badR K K2 ls ns false) 1 := by kernel_rfl
theorem bad_false2 : allK (badL c K c1 K2 c2 p1 p2 Z P ls cs ns a false) 2 = allK (badR K K2 ls ns false) 2 := by kernel_rfl
theorem bad_false3 : allK (badL c K c1 K2 c2 p1 p2 Z P ls cs ns a false) 3 = allK (badR K K2 ls ns false) 3 := by kernel_rfl
theorem bad_false4 : allK (badL c K c1 K2 c2 p1 p2 Z P ls cs ns a false) 4 = allK (badR K K2 ls ns false) 4 := by kernel_rfl
theorem bad_false5 : allK (badL c K c1 K2 c2 p1 p2 Z P ls cs ns a false) 5 = allK (badR K K2 ls ns false) 5 := by kernel_rfl
theorem bad_false6 : allK (badL c K c1 K2 c2 p1 p2 Z P ls cs ns a false) 6 = allK (badR K K2 ls ns false) 6 := by kernel_rfl
theorem bad_false7 : allK (badL c K c1 K2 c2 p1 p2 Z P ls cs ns a false) 7 = allK (badR K K2 ls ns false) 7 := by kernel_rfl
theorem bad_false8 : allK (badL c K c1 K2 c2 p1 p2 Z P ls cs ns a false) 8 = allK (badR K K2 ls ns false) 8 := by kernel_rfl
theorem bad_false9 : allK (badL c K c1 K2 c2 p1 p2 Z P ls cs ns a false) 9 = allK (badR K K2 ls ns false) 9 := by kernel_rfl
theorem bad_false10 : allK (badL c K c1 K2 c2 p1 p2 Z P ls cs ns a false) 10 = allK (badR K K2 ls ns false) 10 := by kernel_rfl
theorem bad_false {q k : Nat} (hq : q ≤ 10) (hk : k < 11 - q) : (badL c K c1 K2 c2 p1 p2 Z P ls cs ns a false) q k = (badR K K2 ls ns false) q k := by
  have h : q = 0 ∨ q = 1 ∨ q = 2 ∨ q = 3 ∨ q = 4 ∨ q = 5 ∨ q = 6 ∨ q = 7 ∨ q = 8 ∨ q = 9 ∨ q = 10 := by omega
  rcases h with rfl | rfl | rfl | rfl | rfl | rfl | rfl | rfl | rfl | rfl | rfl
  · exact mapN_at (bad_false0 c K c1 K2 c2 p1 p2 Z P ls cs ns a) (Nat.zero_le _) (by show k < 0 + (11 - 0); omega)
  · exact mapN_at (bad_false1 c K c1 K2 c2 p1 p2 Z P ls cs ns a) (Nat.zero_le _) (by show k < 0 + (11 - 1); omega)
  · exact mapN_at (bad_false2 c K c1 K2 c2 p1 p2 Z P ls cs ns a) (Nat.zero_le _) (by show k < 0 + (11 - 2); omega)
  · exact mapN_at (bad_false3 c K c1 K2 c2 p1 p2 Z P ls cs ns a) (Nat.zero_le _) (by show k < 0 + (11 - 3); omega)
  · exact mapN_at (bad_false4 c K c1 K2 c2 p1 p2 Z P ls cs ns a) (Nat.zero_le _) (by show k < 0 + (11 - 4); omega)
  · exact mapN_at (bad_false5 c K c1 K2 c2 p1 p2 Z P ls cs ns a) (Nat.zero_le _) (by show k < 0 + (11 - 5); omega)
  · exact mapN_at (bad_false6 c K c1 K2 c2 p1 p2 Z P ls cs ns a) (Nat.zero_le _) (by show k < 0 + (11 - 6); omega)
  · exact mapN_at (bad_false7 c K c1 K2 c2 p1 p2 Z P ls cs ns a) (Nat.zero_le _) (by show k < 0 + (11 - 7); omega)
  · exact mapN_at (bad_false8 c K c1 K2 c2 p1 p2 Z P ls cs ns a) (Nat.zero_le _) (by show k < 0 + (11 - 8); omega)
  · exact mapN_at (bad_false9 c K c1 K2 c2 p1 p2 Z P ls cs ns a) (Nat.zero_le _) (by show k < 0 + (11 - 9); omega)
  · exact mapN_at (bad_false10 c K c1 K2 c2 p1 p2 Z P ls cs ns a) (Nat.zero_le _) (by show k < 0 + (11 - 10); omega)
theorem key_all0 : allK (keyL Y n2 m2 c K c1 p1 Z P ls cs ns a) 0 = allK (keyR Y n2 K ls ns) 0 := by kernel_rfl
theorem key_all1 : allK (keyL Y n2 m2 c K c1 p1 Z P ls cs ns a) 1 = allK (keyR Y n2 K ls ns) 1 := by kernel_rfl
theorem key_all2 : allK (keyL Y n2 m2 c K c1 p1 Z P ls cs ns a) 2 = allK (keyR Y n2 K ls ns) 2 := by kernel_rfl
theorem key_all3 : allK (keyL Y n2 m2 c K c1 p1 Z P ls cs ns a) 3 = allK (keyR Y n2 K ls ns) 3 := by kernel_rfl
theorem key_all4 : allK (keyL Y n2 m2 c K c1 p1 Z P ls cs ns a) 4 = allK (keyR Y n2 K ls ns) 4 := by kernel_rfl
theorem key_all5 : allK (keyL Y n2 m2 c K c1 p1 Z P ls cs ns a) 5 = allK (keyR Y n2 K ls ns) 5 := by kernel_rfl
theorem key_all6 : allK (keyL Y n2 m2 c K c1 p1 Z P ls cs ns a) 6 = allK (keyR Y n2 K ls ns) 6 := by kernel_rfl
theorem key_all7 : allK (keyL Y n2 m2 c K c1 p1 Z P ls cs ns a) 7 = allK (keyR Y n2 K ls ns) 7 := by kernel_rfl
theorem key_all8 : allK (keyL Y n2 m2 c K c1 p1 Z P ls cs ns a) 8 = allK (keyR Y n2 K ls ns) 8 := by kernel_rfl
theorem key_all9 : allK (keyL Y n2 m2 c K c1 p1 Z P ls cs ns a) 9 = allK (keyR Y n2 K ls ns) 9 := by kernel_rfl
theorem key_all10 : allK (keyL Y n2 m2 c K c1 p1 Z P ls cs ns a) 10 = allK (keyR Y n2 K ls ns) 10 := by kernel_rfl
theorem key_all {q k : Nat} (hq : q ≤ 10) (hk : k < 11 - q) : (keyL Y n2 m2 c K c1 p1 Z P ls cs ns a) q k = (keyR Y n2 K ls ns) q k := by
  have h : q = 0 ∨ q = 1 ∨ q = 2 ∨ q = 3 ∨ q = 4 ∨ q = 5 ∨ q = 6 ∨ q = 7 ∨ q = 8 ∨ q = 9 ∨ q = 10 := by omega
  rcases h with rfl | rfl | rfl | rfl | rfl | rfl | rfl | rfl | rfl | rfl | rfl
  · exact mapN_at (key_all0 Y n2 m2 c K c1 p1 Z P ls cs ns a) (Nat.zero_le _) (by show k < 0 + (11 - 0); omega)
  · exact mapN_at (key_all1 Y n2 m2 c K c1 p1 Z P ls cs ns a) (Nat.zero_le _) (by show k < 0 + (11 - 1); omega)
  · exact mapN_at (key_all2 Y n2 m2 c K c1 p1 Z P ls cs ns a) (Nat.zero_le _) (by show k < 0 + (11 - 2); omega)
  · exact mapN_at (key_all3 Y n2 m2 c K c1 p1 Z P ls cs ns a) (Nat.zero_le _) (by show k < 0 + (11 - 3); omega)
  · exact mapN_at (key_all4 Y n2 m2 c K c1 p1 Z P ls cs ns a) (Nat.zero_le _) (by show k < 0 + (11 - 4); omega)
  · exact mapN_at (key_all5 Y n2 m2 c K c1 p1 Z P ls cs ns a) (Nat.zero_le _) (by show k < 0 + (11 - 5); omega)
  · exact mapN_at (key_all6 Y n2 m2 c K c1 p1 Z P ls cs ns a) (Nat.zero_le _) (by show k < 0 + (11 - 6); omega)
  · exact mapN_at (key_all7 Y n2 m2 c K c1 p1 Z P ls cs ns a) (Nat.zero_le _) (by show k < 0 + (11 - 7); omega)
  · exact mapN_at (key_all8 Y n2 m2 c K c1 p1 Z P ls cs ns a) (Nat.zero_le _) (by show k < 0 + (11 - 8); omega)
  · exact mapN_at (key_all9 Y n2 m2 c K c1 p1 Z P ls cs ns a) (Nat.zero_le _) (by show k < 0 + (11 - 9); omega)
  · exact mapN_at (key_all10 Y n2 m2 c K c1 p1 Z P ls cs ns a) (Nat.zero_le _) (by show k < 0 + (11 - 10); omega)
end

end Go.Proofs.YtdnaaeagllejjaaDoor.Aes

