/-
  CtsLong: strings that are too long are refused: the law's own runs.
-/
import Derived.Test.YtdnaaeagllejjaaCts6
namespace Go.Proofs.Ytdnaaeagllejjaa.Aes
open Go.Sim
open Go.Proofs
open Go.RowKit

noncomputable def cfgL : Cfg := cfgOf (sumsOf [(17, cloneS), (25, newS), (6, knownCS)])
theorem cfgLOK : CfgOK cfgL := sumsOf_ok (allC cloneOK (allC newOK (all1 knownCOK)))
noncomputable def longN (x : BitVec 8) : Int := 131073 + ((x.toNat : Int)).tmod 100
noncomputable def longC (X : Nat → BitVec 8) (n : Nat) (r : List Prop) : List Prop := IsB (byteF X) :: (0 + 16 ≤ n) :: IsB (byteF X) :: (0 + 16 ≤ n) :: r
noncomputable def longF (x : BitVec 8) (r : List Prop) : List Prop := (decide (((longN x).toNat : Int) < 16) = false) :: (decide (((longN x).toNat : Int) > 131072) = true) :: r
theorem long_run (X : Nat → BitVec 8) (x : BitVec 8) (n c : Nat) : outO [] (callSim cfgL 20000 4 [.slice ⟨0, .lit 0⟩ (.lit 16) (.sym c), .int .u8 (.b8 x)] [rowF X n]) [false, true, false, true] =
    (inI64 (longN x) :: (0 ≤ longN x ∧ longN x ≤ longN x ∧ longN x * 1 ≤ 2 ^ 48 ∧ longN x ≤ 9223372036854775807 ∧ 1 = 1) :: longC X n (longF x (longC X n (longF x []))), some (.bool (.lit true), [])) := by kernel_rfl
theorem long_nil (v : Value) : outO [] (callSim cfgL 20000 4 [.nilSlice, .val v] []) [] = ([], some (.bool (.lit true), [])) := by kernel_rfl
theorem long_len (X : Nat → BitVec 8) (v : Value) (n c k : Nat) : outO [] (callSim cfgL 20000 4 [.slice ⟨0, .lit 0⟩ (.sym k) (.sym c), .val v] [rowF X n]) [true] = ([((k : Int) != 16) = true], some (.bool (.lit true), [])) := by kernel_rfl
theorem longC_all {X : Nat → BitVec 8} {n : Nat} {r : List Prop} (h : 16 ≤ n) (hr : ∀ p ∈ r, p) : ∀ p ∈ longC X n r, p := all_cons (byteF_isB X) (all_cons (by omega) (all_cons (byteF_isB X) (all_cons (by omega) hr)))
theorem longN_bnd (x : BitVec 8) : 131073 ≤ longN x ∧ longN x < 131173 := by
  unfold longN
  rw [Int.tmod_eq_emod_of_nonneg (by omega)]
  omega
theorem longF_all {x : BitVec 8} {r : List Prop} (hr : ∀ p ∈ r, p) : ∀ p ∈ longF x r, p := by
  have := longN_bnd x
  exact all_cons (decide_eq_false (by omega)) (all_cons (decide_eq_true (by omega)) hr)
theorem byte_of {n : Int} (h : (Lit.int .u8 n).wf = true) : ((BitVec.ofInt 8 n).toNat : Int) = n := by
  have hr : 0 ≤ n ∧ n ≤ 255 := by
    simp [Lit.wf, IntKind.min, IntKind.max, IntKind.signed, IntKind.bits] at h
    omega
  rw [BitVec.toNat_ofInt]
  omega
theorem long_law {w : World} {a0 : Option Addr} {len0 cap0 : Nat} {X : Nat → BitVec 8} (h0 : ByteRow w a0 len0 cap0 X) {a1 : Int} (h1 : (Lit.int .u8 a1).wf = true) :
    Calls Try.prog 4 #[.slice a0 len0 cap0, .int .u8 a1] w fun e w' => e = .returned (.bool true) ∧ Below w.heap.size w w' := by
  rcases h0 with ⟨rfl, rfl, rfl⟩ | ⟨x, rfl, hsx, hlx, _, hcx⟩
  · exact law_by cfgLOK 20000 (HeapRel.start _ _ w) (GlobRel.none _) (args := [.nilSlice, .val (.int .u8 a1)]) rfl [] (long_nil _) all_nil
  · obtain ⟨β, hH, hle, hd⟩ := start_row (P := Try.prog) (HeapRel.start _ _ w) hsx hlx hcx
    by_cases hk : len0 = 16
    · subst hk
      have hd : (SV.slice ⟨0, .lit 0⟩ (.lit 16) (.sym cap0)).den β = some (.slice (some x) 16 cap0) := hd
      have hx : (SV.int .u8 (.b8 (BitVec.ofInt 8 a1))).den β = some (.int .u8 a1) := by
        show some (Value.int .u8 ((BitVec.ofInt 8 a1).toNat : Int)) = _
        rw [byte_of h1]
      have hb := longN_bnd (BitVec.ofInt 8 a1)
      refine law_by cfgLOK 20000 hH (GlobRel.none _) (denL_cons.2 ⟨_, _, hd, denL_cons.2 ⟨_, _, hx, rfl, rfl⟩, rfl⟩) _ (long_run X (BitVec.ofInt 8 a1) cap0 cap0) ?_
      exact all_cons ⟨by omega, by omega⟩ (all_cons ⟨by omega, by omega, by omega, by omega, rfl⟩ (longC_all hlx (longF_all (longC_all hlx (longF_all all_nil)))))
    · refine law_by cfgLOK 20000 hH (GlobRel.none _) (denL_cons.2 ⟨_, _, hd, denL_cons.2 ⟨.int .u8 a1, _, rfl, rfl, rfl⟩, rfl⟩) [true] (long_len X (.int .u8 a1) cap0 cap0 len0) (all_cons ?_ all_nil)
      rw [bne_iff_ne]; omega

end Go.Proofs.Ytdnaaeagllejjaa.Aes
