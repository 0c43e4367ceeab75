/-
  ProfileNames: the law's run.
-/
import Derived.Test.YtbmgahpjgefjaaaGreatDoorPk12
namespace Go.Proofs.YtbmgahpjgefjaaaGreatDoor.Aes
open Go.Sim
open Go.Proofs

set_option maxRecDepth 1000000
noncomputable def cfgNm : Cfg := cfgG globP (sumsOf [(50, kindsS), (11, knS)])
theorem cfgNmOK : CfgOK cfgNm := sumsG_ok (allS (kindsOK _) (allS knOK (by simp)))
noncomputable def nmT (n : Int) : Tree := callSim cfgNm 8000 9 [.int .i64 (.sym n)] (shaHP [])
theorem nm_all (n : Int) (z : Nat → Nat → Nat) : allL [] (nmT n) z = ([], repN (some (.bool (.lit true), [])) 12) := by kernel_rfl
theorem nm_ob (n : Int) : (nmT n).Ob (endP [] (.bool (.lit true)) []) fun _ => False := by
  refine allL_ob (fun z p hp => ?_) fun z r hr => ?_
  · rw [nm_all n z] at hp; cases hp
  · rw [nm_all n z, repN_eq] at hr
    exact List.eq_of_mem_replicate hr
theorem names_law {w : World} {β : Val} (hH : HeapRel Tryz.prog (fun _ => False) w β (shaHP []) w) (hG : GlobRel globP β) (n : Int) :
    Calls Tryz.prog 9 #[.int .i64 n] w fun e w' => e = .returned (.bool true) ∧ Go.RowKit.Below w.heap.size w w' :=
  calls_true cfgNmOK 8000 hH hG (args := [.int .i64 (.sym n)]) rfl ((nm_ob n).mono fun _ _ h => h.1)
end Go.Proofs.YtbmgahpjgefjaaaGreatDoor.Aes

