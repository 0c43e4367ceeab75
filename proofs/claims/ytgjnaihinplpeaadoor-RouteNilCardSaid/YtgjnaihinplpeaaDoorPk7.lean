/-
  RouteNil: nil maps and policies answer as stated: the law's own runs.
-/
import Derived.Test.YtgjnaihinplpeaaDoorZRtc6
namespace Go.Proofs.YtgjnaihinplpeaaDoor.Aes
open Go.Sim
open Go.Proofs
open Go.RowKit

set_option maxRecDepth 1000000
noncomputable def rniT (a b : ByteArray) : Tree := callSim cfgR3 20000 9 [.str (.sym a), .str (.sym b)] []
theorem rni_run1 (a b : ByteArray) : outO [] (rniT a b) [true] = ([decide ((a.size : Int) > 60) = true], some (.bool (.lit true), [])) := by kernel_rfl
theorem rni_run2 (a b : ByteArray) : outO [] (rniT a b) [false, true] = ([decide ((a.size : Int) > 60) = false, decide ((b.size : Int) > 60) = true], some (.bool (.lit true), [])) := by kernel_rfl
theorem rni_run3 (a b : ByteArray) : outO [] (rniT a b) [false, false] = ([decide ((a.size : Int) > 60) = false, decide ((b.size : Int) > 60) = false], some (.bool (.lit true), [])) := by kernel_rfl
theorem nil_law {w : World} {a b : ByteArray} : Calls Tryd.prog 9 #[.string a, .string b] w fun e w' => e = .returned (.bool true) ∧ Below w.heap.size w w' := by
  have ha : SV.denL (fun _ => none) [.str (.sym a), .str (.sym b)] = some [.string a, .string b] := rfl
  by_cases h1 : (a.size : Int) > 60
  · exact law_by cfgR3OK 20000 (HeapRel.start _ _ w) (GlobRel.none _) ha [true] (rni_run1 a b) (all_cons (decide_eq_true h1) all_nil)
  · by_cases h2 : (b.size : Int) > 60
    · exact law_by cfgR3OK 20000 (HeapRel.start _ _ w) (GlobRel.none _) ha [false, true] (rni_run2 a b) (all_cons (decide_eq_false h1) (all_cons (decide_eq_true h2) all_nil))
    · exact law_by cfgR3OK 20000 (HeapRel.start _ _ w) (GlobRel.none _) ha [false, false] (rni_run3 a b) (all_cons (decide_eq_false h1) (all_cons (decide_eq_false h2) all_nil))
end Go.Proofs.YtgjnaihinplpeaaDoor.Aes

