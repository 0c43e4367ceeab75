/-
  AesNone: without a cipher nothing is encrypted, decrypted or yielded: the law's own runs.
-/
import Derived.Test.YtbgpdpeafdoomaaAes8
import Derived.Test.YtbgpdpeafdoomaaEng31
namespace Go.Proofs.Ytbgpdpeafdoomaa.Aes
open Go.Sim
open Go.Proofs
open Go.RowKit

noncomputable def cfgN : Cfg := cfgOf (sumsOf [(5, knownS)])
theorem cfgNOK : CfgOK cfgN := sumsOf_ok (all1 knownOK)
theorem none_nil : outO [] (callSim cfgN 6000 4 [.nilSlice] []) [] = ([], some (.bool (.lit true), [])) := by kernel_rfl
theorem none_long (X : Nat → BitVec 8) (n k c : Nat) : outO [] (callSim cfgN 6000 4 [.slice ⟨0, .lit 0⟩ (.sym k) (.sym c)] [rowF X n]) [true] = ([decide ((k : Int) > 40) = true], some (.bool (.lit true), [])) := by kernel_rfl
theorem none_short (X : Nat → BitVec 8) (n k c : Nat) : outO [] (callSim cfgN 6000 4 [.slice ⟨0, .lit 0⟩ (.sym k) (.sym c)] [rowF X n]) [false] = ([decide ((k : Int) > 40) = false], some (.bool (.lit true), [])) := by kernel_rfl
theorem none_law {w : World} {a0 : Option Addr} {len0 cap0 : Nat} {X : Nat → BitVec 8} (h0 : ByteRow w a0 len0 cap0 X) :
    Calls Try.prog 4 #[.slice a0 len0 cap0] w fun e w' => e = .returned (.bool true) ∧ Below w.heap.size w w' := by
  rcases h0 with ⟨rfl, rfl, rfl⟩ | ⟨x, rfl, hsx, hlx, _, hcx⟩
  · exact law_by cfgNOK 6000 (HeapRel.start _ _ w) (GlobRel.none _) (args := [.nilSlice]) rfl [] none_nil all_nil
  · obtain ⟨β, hH, hle, hd⟩ := start_row (P := Try.prog) (HeapRel.start _ _ w) hsx hlx hcx
    by_cases hk : (len0 : Int) > 40
    · exact law_by cfgNOK 6000 hH (GlobRel.none _) (denL_cons.2 ⟨_, _, hd, rfl, rfl⟩) [true] (none_long X cap0 len0 cap0) (all_cons (decide_eq_true hk) all_nil)
    · exact law_by cfgNOK 6000 hH (GlobRel.none _) (denL_cons.2 ⟨_, _, hd, rfl, rfl⟩) [false] (none_short X cap0 len0 cap0) (all_cons (decide_eq_false hk) all_nil)

end Go.Proofs.Ytbgpdpeafdoomaa.Aes
